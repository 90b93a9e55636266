/- Plain laws over the contracts' functions: what the law's function gives, for all arguments. -/
import Derived.Test.YtfpcfaapoeeipaaVep3
set_option linter.unusedSimpArgs false
set_option linter.unusedVariables false
namespace Go.Proofs.Ytfpcfaapoeeipaa.Bas
open Go.RowKit Go.Proofs.YtfpcfaapoeeipaaW.PrintWords Go.Proofs.YtfpcfaapoeeipaaW.PrintLast Go.Proofs.YtfpcfaapoeeipaaW.PrintMore Go.Proofs.Ytfpcfaapoeeipaa.P
def IsB (b : Int) : Prop := b = 4 ∨ b = 8 ∨ b = 16
def pw (b : Int) : Int := if b = 4 then 16 else if b = 8 then 256 else 65536
theorem pw_bounds {b : Int} (h : IsB b) : (pw b = 16 ∨ pw b = 256 ∨ pw b = 65536) ∧ 4 ≤ b ∧ b ≤ 16 := by
  rcases h with rfl | rfl | rfl <;> decide
structure Bf (b : Int) : Prop where
  s : shl .i64 1 b = pw b
  m : wrap64 (pw b - 1) = pw b - 1
  h : shl .i64 1 (wrap64 (b - 1)) = pw b / 2
  u : IntKind.u64.wrap b = b
  u1 : IntKind.u64.wrap (wrap64 (b - 1)) = wrap64 (b - 1)
  w1 : 0 ≤ wrap64 (b - 1)
theorem bf {b : Int} (h : IsB b) : Bf b := by
  rcases h with rfl | rfl | rfl <;> exact ⟨by decide +kernel, by decide +kernel, by decide +kernel, by decide +kernel, by decide +kernel, by decide +kernel⟩
theorem w64 {x : Int} (h : -9223372036854775808 ≤ x ∧ x ≤ 9223372036854775807) : wrap64 x = x := by unfold wrap64; omega
theorem within_impl (n lo hi : Int) : impl_within.f n lo hi = some (decide (lo ≤ n ∧ n ≤ hi)) := by
  unfold impl_within.f
  by_cases h : lo ≤ n <;> simp [h]
theorem in_spec (n lo hi : Int) : spec_l00In.f n lo hi = some (decide (lo ≤ n ∧ n ≤ hi)) := by
  unfold spec_l00In.f
  by_cases h : lo ≤ n <;> simp [h]
def isB (b : Int) : Bool := decide (b = 4 ∨ b = 8 ∨ b = 16)
theorem isB_iff {b : Int} : isB b = true ↔ IsB b := by simp [isB, IsB]
theorem bits_impl (b : Int) : impl_isBits.f b = some (isB b) := by
  unfold impl_isBits.f isB
  by_cases h : b = 4 <;> by_cases h2 : b = 8 <;> by_cases h3 : b = 16 <;> simp [h, h2, h3] <;> omega
theorem bits_spec (b : Int) : spec_l01Bits.f b = some (isB b) := bits_impl b
def isW (b x : Int) : Bool := isB b && decide (0 ≤ x ∧ x ≤ pw b - 1)
theorem word_impl (b x : Int) : impl_IsWord.f b x = some (isW b x) := by
  unfold impl_IsWord.f isW
  rw [bits_impl]
  simp only [Option.bind_some]
  by_cases h : isB b = true
  · have hb := isB_iff.1 h
    have B := pw_bounds hb
    rw [if_pos h, if_pos (by omega), (bf hb).s, (bf hb).m, within_impl, h]; simp
  · simp only [Bool.not_eq_true] at h; rw [h]; simp
theorem word_spec (b x : Int) : spec_l01Word.f b x = some (isW b x) := by
  unfold spec_l01Word.f isW
  rw [bits_spec]
  simp only [Option.bind_some]
  by_cases h : isB b = true
  · have hb := isB_iff.1 h
    have B := pw_bounds hb
    rw [if_pos h, (bf hb).u, if_pos (by omega), (bf hb).s, (bf hb).m, in_spec, h]; simp
  · simp only [Bool.not_eq_true] at h; rw [h]; simp
theorem evif {α : Type} {c : Prop} [Decidable c] {a b : Nat → Option α} {r : α} (h : c) (k : Ev a r) : Ev (fun n => if c then a n else b n) r := by simp only [if_pos h]; exact k
theorem evelse {α : Type} {c : Prop} [Decidable c] {a b : Nat → Option α} {r : α} (h : ¬ c) (k : Ev b r) : Ev (fun n => if c then a n else b n) r := by simp only [if_neg h]; exact k
theorem rd_nat (xs : List Int) (j : Nat) : rd xs (j : Int) = xs.getD j 0 := rfl
theorem rd_set (xs : List Int) (a : Nat) (v : Int) (j : Nat) (h : a < xs.length) : rd (xs.set a v) (j : Int) = if j = a then v else rd xs (j : Int) := by
  rw [rd_nat, rd_nat]
  by_cases e : j = a
  · subst e; simp [h]
  · rw [if_neg e]; simp [List.getD, List.getElem?_set, Ne.symm e]
theorem w64n (i : Nat) (h : i ≤ 100000) : wrap64 ((i : Int) + 1) = ((i + 1 : Nat) : Int) := by rw [w64 (by omega)]; omega
theorem drop_cons_rd (xs : List Int) (q : Nat) (h : q < xs.length) : xs.drop q = rd xs (q : Int) :: xs.drop (q + 1) := by
  rw [List.drop_eq_getElem_cons h, rd_nat]; simp [List.getD, h]
theorem w64N (i : Nat) (h : i ≤ 4611686018427387904) : wrap64 ((i : Int) + 1) = ((i + 1 : Nat) : Int) := by rw [w64 (by omega)]; omega
theorem set_take_drop {α : Type} (xs ys : List α) (i : Nat) (v : α) (h : i < xs.length) (hv : ys[i]? = some v) : (ys.take i ++ xs.drop i).set i v = ys.take (i + 1) ++ xs.drop (i + 1) := by
  have hy : i < ys.length := by
    rcases Nat.lt_or_ge i ys.length with h1 | h1
    · exact h1
    · rw [List.getElem?_eq_none h1] at hv; cases hv
  have e : ys[i] = v := by rw [List.getElem?_eq_getElem hy] at hv; exact Option.some.inj hv
  apply List.ext_getElem?
  intro j
  by_cases hj : j = i
  · subst hj
    rw [List.getElem?_set_self (by simp; omega), List.getElem?_append_left (by simp; omega), List.getElem?_take]
    simp [hv]
  · rw [List.getElem?_set_ne (Ne.symm hj)]
    rcases Nat.lt_or_ge j i with h1 | h1
    · rw [List.getElem?_append_left (by simp; omega), List.getElem?_append_left (by simp; omega), List.getElem?_take, List.getElem?_take]
      simp [h1, show j < i + 1 by omega]
    · rw [List.getElem?_append_right (by simp; omega), List.getElem?_append_right (by simp; omega), List.getElem?_drop, List.getElem?_drop]
      congr 1; simp; omega
theorem rd_some (xs : List Int) (i : Nat) (h : i < xs.length) : xs[i]? = some (rd xs (i : Int)) := by rw [rd_nat]; simp [List.getD, h]
theorem toI (l : List Int) (h : l.length ≤ 1048576) : Ev (fun k => laws_toInt64S.f k l) l := by
  have key : ∀ (d i : Nat), l.length - i = d → i ≤ l.length → Ev (fun k => laws_toInt64S.l0 k l (l.take i ++ (List.replicate l.length 0).drop i) i) l := by
    intro d
    induction d with
    | zero =>
      intro i hd hi
      have : i = l.length := by omega
      subst this
      refine Ev.step (f := fun _ => some l) (fun k => ?_) (Ev.now _)
      simp only [laws_toInt64S.l0]; rw [if_neg (by omega)]; simp
    | succ d ih =>
      intro i hd hi
      refine Ev.step (fun k => ?_) (ih (i + 1) (by omega) (by omega))
      simp only [laws_toInt64S.l0]
      rw [if_pos (by omega), if_pos (by omega), if_pos (by simp; omega), w64N i (by omega), show ((i : Int)).toNat = i by omega, set_take_drop _ _ _ _ (by simp; omega) (rd_some l i (by omega))]
  have := key l.length 0 (by omega) (by omega)
  simp only [List.take_zero, List.drop_zero, List.nil_append] at this
  unfold laws_toInt64S.f
  refine evif (by omega) (evif (by omega) ?_)
  rw [show ((l.length : Int)).toNat = l.length by omega]
  exact this
theorem eqI (l : List Int) (h : l.length ≤ 4611686018427387904) : Ev (fun k => laws_eqInt64S.f k l l) true := by
  have key : ∀ (d i : Nat), l.length - i = d → i ≤ l.length → Ev (fun k => laws_eqInt64S.l0 k l l i) true := by
    intro d
    induction d with
    | zero =>
      intro i hd hi
      refine Ev.step (f := fun _ => some true) (fun k => ?_) (Ev.now _)
      simp only [laws_eqInt64S.l0]; rw [if_neg (by omega)]
    | succ d ih =>
      intro i hd hi
      refine Ev.step (fun k => ?_) (ih (i + 1) (by omega) (by omega))
      simp only [laws_eqInt64S.l0]
      rw [if_pos (by omega), if_pos (by omega), if_pos (by omega), if_pos trivial, w64N i (by omega)]
  unfold laws_eqInt64S.f
  exact evif rfl (key l.length 0 (by omega) (by omega))
theorem markI (l : List Int) (m : Nat) (h : m + l.length ≤ 4611686018427387904) :
    ∃ l', l'.length = l.length ∧ Ev (fun k => laws_markInt64S.f k l m) (((m + l.length : Nat) : Int), l') ∧ Ev (fun k => laws_heldInt64S.f k l' m) ((m + l.length : Nat) : Int) := by
  have key : ∀ (d i : Nat) (x : List Int), l.length - i = d → i ≤ l.length → x.length = l.length → (∀ j : Nat, j < i → rd x j = ((m + j : Nat) : Int)) →
      ∃ l', l'.length = l.length ∧ (∀ j : Nat, j < l.length → rd l' j = ((m + j : Nat) : Int)) ∧ Ev (fun k => laws_markInt64S.l0 k x ((m + i : Nat) : Int) i) (((m + l.length : Nat) : Int), l') := by
    intro d
    induction d with
    | zero =>
      intro i x hd hi hx hr
      have : i = l.length := by omega
      subst this
      refine ⟨x, hx, hr, Ev.step (f := fun _ => some (((m + l.length : Nat) : Int), x)) (fun k => ?_) (Ev.now _)⟩
      simp only [laws_markInt64S.l0]; rw [if_neg (by omega)]
    | succ d ih =>
      intro i x hd hi hx hr
      obtain ⟨l', h1, h2, h3⟩ := ih (i + 1) (x.set i ((m + i : Nat) : Int)) (by omega) (by omega) (by simp [hx]) (fun j hj => by
        rw [rd_set _ _ _ _ (by omega)]
        by_cases e : j = i
        · rw [if_pos e, e]
        · rw [if_neg e]; exact hr j (by omega))
      refine ⟨l', h1, h2, Ev.step (fun k => ?_) h3⟩
      simp only [laws_markInt64S.l0]
      rw [if_pos (by omega), if_pos (by omega), w64N i (by omega), w64N (m + i) (by omega)]
      rfl
  obtain ⟨l', h1, h2, h3⟩ := key l.length 0 l (by omega) (by omega) rfl (fun j hj => by omega)
  refine ⟨l', h1, h3, ?_⟩
  have key2 : ∀ (d i : Nat), l.length - i = d → i ≤ l.length → Ev (fun k => laws_heldInt64S.l0 k l' ((m + i : Nat) : Int) i) ((m + l.length : Nat) : Int) := by
    intro d
    induction d with
    | zero =>
      intro i hd hi
      have : i = l.length := by omega
      subst this
      refine Ev.step (f := fun _ => some ((m + l.length : Nat) : Int)) (fun k => ?_) (Ev.now _)
      simp only [laws_heldInt64S.l0]; rw [if_neg (by omega)]
    | succ d ih =>
      intro i hd hi
      refine Ev.step (fun k => ?_) (ih (i + 1) (by omega) (by omega))
      simp only [laws_heldInt64S.l0]
      rw [if_pos (by omega), if_pos (by omega), h2 i (by omega), if_pos rfl, w64N i (by omega), w64N (m + i) (by omega)]
      rfl
  exact key2 l.length 0 (by omega) (by omega)
end Go.Proofs.Ytfpcfaapoeeipaa.Bas
namespace Go.Proofs.Ytfpcfaapoeeipaa.Vec
open Go.RowKit Go.Proofs.YtfpcfaapoeeipaaW.PrintWords Go.Proofs.YtfpcfaapoeeipaaW.PrintLast Go.Proofs.YtfpcfaapoeeipaaW.PrintMore Go.Proofs.Ytfpcfaapoeeipaa.P Go.Proofs.Ytfpcfaapoeeipaa.Bas
def isL (n : Int) : Bool := decide (n = 2 ∨ n = 4 ∨ n = 8 ∨ n = 16)
theorem lanes_impl (n : Int) : impl_isLanes.f n = some (isL n) := by
  unfold impl_isLanes.f isL
  by_cases h2 : n = 2 <;> by_cases h4 : n = 4 <;> by_cases h8 : n = 8 <;> by_cases h16 : n = 16 <;> simp [h2, h4, h8, h16] <;> omega
theorem lanes_spec (n : Int) : spec_l02Lanes.f n = some (isL n) := lanes_impl n
theorem allO_all {α : Type} (q : α → Bool) : ∀ xs : List α, allO (fun x => some (q x)) xs = some (xs.all q)
  | [] => rfl
  | x :: xs => by
    simp only [allO, Option.bind_some, List.all_cons]
    cases h : q x
    · simp
    · simp [allO_all q xs]
theorem words_spec (a0 : Int) (v : List Int) (hl : v.length ≤ 100000) : Ev (fun k => spec_l01Words.f k a0 v) (v.all (isW a0) && isB a0) := by
  have key : ∀ (d i : Nat), v.length - i = d → i ≤ v.length → Ev (fun k => spec_l01Words.l0 k a0 v i) ((v.drop i).all (isW a0) && isB a0) := by
    intro d
    induction d with
    | zero =>
      intro i hd hi
      have : i = v.length := by omega
      subst this
      refine Ev.step (f := fun _ => some (isB a0)) (fun k => ?_) ?_
      · simp only [spec_l01Words.l0]; rw [if_neg (by omega), bits_spec]; rfl
      · simp; exact Ev.now _
    | succ d ih =>
      intro i hd hi
      have hlt : i < v.length := by omega
      rw [drop_cons_rd v i hlt, List.all_cons]
      refine Ev.step (f := fun k => if isW a0 (rd v i) = true then spec_l01Words.l0 k a0 v ((i + 1 : Nat) : Int) else some false) (fun k => ?_) ?_
      · simp only [spec_l01Words.l0]; rw [if_pos (by omega), if_pos (by omega), word_spec, w64n i (by omega)]; rfl
      · cases hw : isW a0 (rd v i) with
        | false => refine evelse (by simp) ?_; simp; exact Ev.now _
        | true => refine evif rfl ?_; simpa using ih (i + 1) (by omega) (by omega)
  have := key v.length 0 (by omega) (by omega)
  simp only [List.drop_zero] at this
  exact this
def isVec (a0 : Int) (v : List Int) : Bool := isB a0 && (isL v.length && v.all (isW a0))
theorem vec_impl (a0 : Int) (v : List Int) : impl_IsVector.f a0 v = some (isVec a0 v) := by
  unfold impl_IsVector.f isVec
  rw [bits_impl]
  simp only [Option.bind_some]
  rw [show impl_IsWord.f a0 = fun x => some (isW a0 x) from funext (word_impl a0), allO_all, lanes_impl]
  simp only [Option.bind_some]
  cases isB a0 <;> cases isL v.length <;> simp
theorem isL_len {n : Nat} (h : isL (n : Int) = true) : 2 ≤ n ∧ n ≤ 16 := by
  unfold isL at h; simp at h; omega
theorem vec_spec (a0 : Int) (v : List Int) : Ev (fun k => spec_l02Is.f k a0 v) (isVec a0 v) := by
  unfold spec_l02Is.f isVec
  rw [lanes_spec]
  simp only [Option.bind_some]
  cases hL : isL v.length with
  | false => refine evelse (by simp) ?_; simp; exact Ev.now _
  | true =>
    have := isL_len hL
    refine evif rfl ?_
    rw [show (isB a0 && (true && v.all (isW a0))) = (v.all (isW a0) && isB a0) by simp [Bool.and_comm]]
    exact Ev.bind (words_spec a0 v (by omega)) (Ev.now _)
theorem vec_len {a0 : Int} {v : List Int} (h : isVec a0 v = true) : 2 ≤ v.length ∧ v.length ≤ 16 := by
  unfold isVec at h
  simp only [Bool.and_eq_true] at h
  exact isL_len h.2.1
end Go.Proofs.Ytfpcfaapoeeipaa.Vec
namespace Go.Proofs.Ytfpcfaapoeeipaa.Mrg
open Go.RowKit Go.Proofs.YtfpcfaapoeeipaaW.PrintWords Go.Proofs.YtfpcfaapoeeipaaW.PrintLast Go.Proofs.YtfpcfaapoeeipaaW.PrintMore Go.Proofs.Ytfpcfaapoeeipaa.P Go.Proofs.Ytfpcfaapoeeipaa.Bas Go.Proofs.Ytfpcfaapoeeipaa.Vec
def Asc (l : List Int) : Prop := ∀ j : Nat, j + 1 < l.length → rd l (j : Int) ≤ rd l ((j + 1 : Nat) : Int)
theorem asc_impl (l : List Int) (hl : l.length ≤ 100000) (h2 : 2 ≤ l.length) : ∃ b : Bool, (b = true ↔ Asc l) ∧ slices_IsSorted_int64_int64.f (l.length + 1) l = some b := by
  have key : ∀ (i k : Nat), i < k → i < l.length → ∃ b : Bool, (b = true ↔ ∀ j : Nat, j < i → rd l (j : Int) ≤ rd l ((j + 1 : Nat) : Int)) ∧ slices_IsSorted_int64_int64.l0 k l (i : Int) = some b := by
    intro i
    induction i with
    | zero =>
      intro k hk hi
      obtain ⟨k, rfl⟩ := Nat.exists_eq_add_of_lt hk
      refine ⟨true, by simp, ?_⟩
      rw [show 0 + k + 1 = k + 1 by omega]
      simp only [slices_IsSorted_int64_int64.l0]
      rw [if_neg (by omega)]
    | succ i ih =>
      intro k hk hi
      obtain ⟨m, hm⟩ : ∃ m, k = m + 1 := ⟨k - 1, by omega⟩
      subst hm
      have hw : wrap64 (((i + 1 : Nat) : Int) - 1) = (i : Int) := by rw [w64 (by omega)]; omega
      have hless : ∀ a b : Int, cmp_Less_int64.f a b = some (decide (a < b)) := by
        intro a b
        unfold cmp_Less_int64.f cmp_isNaN_int64.f
        simp
      by_cases hf : rd l ((i + 1 : Nat) : Int) < rd l (i : Int)
      · refine ⟨false, ?_, ?_⟩
        · simp only [Bool.false_eq_true, false_iff]
          intro hq
          have := hq i (by omega)
          omega
        · simp only [slices_IsSorted_int64_int64.l0]
          rw [if_pos (by omega), if_pos (by omega), if_pos (by omega), hw, if_pos (by omega), if_pos (by omega), hless, decide_eq_true hf]
          rfl
      · obtain ⟨b, hb, e⟩ := ih m (by omega) (by omega)
        refine ⟨b, ?_, ?_⟩
        · rw [hb]
          constructor
          · intro hq j hj
            by_cases hji : j = i
            · subst hji; omega
            · exact hq j (by omega)
          · exact fun hq j hj => hq j (by omega)
        · simp only [slices_IsSorted_int64_int64.l0]
          rw [if_pos (by omega), if_pos (by omega), if_pos (by omega), hw, if_pos (by omega), if_pos (by omega), hless, decide_eq_false hf, ← e]
          rfl
  obtain ⟨b, hb, e⟩ := key (l.length - 1) (l.length + 1) (by omega) (by omega)
  refine ⟨b, ?_, ?_⟩
  · rw [hb]
    unfold Asc
    exact ⟨fun hq j hj => hq j (by omega), fun hq j hj => hq j (by omega)⟩
  · unfold slices_IsSorted_int64_int64.f
    rw [show wrap64 ((l.length : Int) - 1) = ((l.length - 1 : Nat) : Int) by rw [w64 (by omega)]; omega]
    exact e
theorem asc_spec (l : List Int) (hl : l.length ≤ 100000) (b : Bool) (hb : b = true ↔ Asc l) : Ev (fun k => spec_l10Ascends.f k l) b := by
  have key : ∀ (d i : Nat), l.length - i = d → 1 ≤ i → (∀ j : Nat, j + 1 < i → rd l (j : Int) ≤ rd l ((j + 1 : Nat) : Int)) → Ev (fun k => spec_l10Ascends.l0 k l (i : Int)) b := by
    intro d
    induction d with
    | zero =>
      intro i hd hi hj
      have : b = true := hb.2 (fun j hj' => hj j (by omega))
      subst this
      refine Ev.step (f := fun _ => some true) (fun k => ?_) (Ev.now _)
      simp only [spec_l10Ascends.l0]; rw [if_neg (by omega)]
    | succ d ih =>
      intro i hd hi hj
      have hw : wrap64 ((i : Int) - 1) = ((i - 1 : Nat) : Int) := by rw [w64 (by omega)]; omega
      by_cases hf : rd l (i : Int) < rd l ((i - 1 : Nat) : Int)
      · have : b = false := by
          cases b with
          | false => rfl
          | true =>
            have := hb.1 rfl (i - 1) (by omega)
            rw [show i - 1 + 1 = i by omega] at this
            omega
        subst this
        refine Ev.step (f := fun _ => some false) (fun k => ?_) (Ev.now _)
        simp only [spec_l10Ascends.l0]
        rw [if_pos (by omega), if_pos (by omega), hw, if_pos (by omega), if_pos (by omega), if_pos hf]
      · refine Ev.step (fun k => ?_) (ih (i + 1) (by omega) (by omega) (fun j hj' => ?_))
        · simp only [spec_l10Ascends.l0]
          rw [if_pos (by omega), if_pos (by omega), hw, if_pos (by omega), if_pos (by omega), if_neg hf, w64n i (by omega)]
        · by_cases e : j + 1 = i
          · rw [e]; rw [show i - 1 = j by omega] at hf; omega
          · exact hj j (by omega)
  unfold spec_l10Ascends.f
  exact key _ 1 rfl (by omega) (fun j hj => by omega)
def ins (n : Int) : List Int → List Int
  | [] => [n]
  | y :: ys => if y ≤ n then y :: ins n ys else n :: y :: ys
theorem ins_perm (n : Int) : ∀ l : List Int, (ins n l).Perm (n :: l)
  | [] => List.Perm.refl _
  | y :: ys => by
    unfold ins
    split
    · exact ((ins_perm n ys).cons y).trans (List.Perm.swap n y ys)
    · exact List.Perm.refl _
theorem ins_asc (n : Int) : ∀ l : List Int, l.Pairwise (· ≤ ·) → (ins n l).Pairwise (· ≤ ·)
  | [], _ => by simp [ins]
  | y :: ys, h => by
    have h' := h
    rw [List.pairwise_cons] at h
    unfold ins
    split
    · rename_i h1
      rw [List.pairwise_cons]
      refine ⟨fun z hz => ?_, ins_asc n ys h.2⟩
      rcases List.mem_cons.1 ((ins_perm n ys).mem_iff.1 hz) with e | e
      · omega
      · exact h.1 z e
    · rename_i h1
      rw [List.pairwise_cons]
      refine ⟨fun z hz => ?_, h'⟩
      rcases List.mem_cons.1 hz with e | e
      · omega
      · have := h.1 z e; omega
theorem inss (l : List Int) : ∀ o : List Int, o.Pairwise (· ≤ ·) → (l.foldl (fun o x => ins x o) o).Pairwise (· ≤ ·) ∧ (l.foldl (fun o x => ins x o) o).Perm (l ++ o) := by
  induction l with
  | nil => exact fun o h => ⟨h, List.Perm.refl _⟩
  | cons x l ih =>
    intro o h
    obtain ⟨h1, h2⟩ := ih (ins x o) (ins_asc x o h)
    refine ⟨h1, h2.trans ?_⟩
    exact ((ins_perm x o).append_left l).trans List.perm_middle
theorem asc_eq : ∀ xs ys : List Int, xs.Pairwise (· ≤ ·) → ys.Pairwise (· ≤ ·) → xs.Perm ys → xs = ys
  | [], ys, _, _, h => by rw [List.Perm.nil_eq h]
  | x :: xs, [], _, _, h => by have := h.length_eq; simp at this
  | x :: xs, y :: ys, hx, hy, h => by
    have hx' := hx
    have hy' := hy
    rw [List.pairwise_cons] at hx hy
    have e : x = y := by
      have h1 := h.mem_iff.1 (show x ∈ x :: xs by simp)
      have h2 := h.mem_iff.2 (show y ∈ y :: ys by simp)
      rcases List.mem_cons.1 h1 with h1 | h1
      · exact h1
      · rcases List.mem_cons.1 h2 with h2 | h2
        · exact h2.symm
        · have := hx.1 y h2; have := hy.1 x h1; omega
    subst e
    rw [asc_eq xs ys hx.2 hy.2 ((List.perm_cons x).1 h)]
theorem sortL_eq (l : List Int) : l.foldl (fun o x => ins x o) [] = sortL l := by
  obtain ⟨h1, h2⟩ := inss l [] (by simp)
  have hs := List.pairwise_mergeSort (le := fun (x y : Int) => decide (x ≤ y)) (by intro a b c; simp; omega) (by intro a b; simp; omega) l
  refine asc_eq _ _ h1 (hs.imp (by intro a b h; simpa using h)) ?_
  rw [List.append_nil] at h2
  exact h2.trans (List.mergeSort_perm l _).symm
theorem ins_len (n : Int) (l : List Int) : (ins n l).length = l.length + 1 := by
  have := (ins_perm n l).length_eq; simpa using this
theorem own_spec (l : List Int) (h : l.length ≤ 100000) : spec_l00Own.f l = some l := by
  unfold spec_l00Own.f
  simp only [Option.bind_some, List.length_nil, List.nil_append]
  rw [if_pos (by omega)]
theorem sort_spec (l : List Int) (hl : l.length ≤ 1000) : Ev (fun k => spec_l10Sort.f k l) (sortL l) := by
  have inner : ∀ (r : List Int) (i : Nat) (o : List Int), i < l.length → o.length ≤ i → ∀ (d p : Nat), o.length - p = d → p ≤ o.length → Ev (fun k => spec_l10Sort.l0 k l (o.take p ++ ins (rd l i) (o.drop p)) ((i + 1 : Nat) : Int)) r → Ev (fun k => spec_l10Sort.l1 k l o i p) r := by
    intro r i o hi ho d
    induction d with
    | zero =>
      intro p hd hp hk
      have : p = o.length := by omega
      subst this
      refine Ev.step (fun k => ?_) hk
      simp only [spec_l10Sort.l1]
      rw [if_neg (by omega), if_pos (by omega), if_pos (by omega)]
      simp only [Option.bind_some]
      rw [if_pos (by omega), if_pos (by omega), show ((o.length : Int)).toNat = o.length by omega, if_pos (by simp)]
      rw [own_spec _ (by simp; omega)]
      simp only [Option.bind_some]
      rw [if_pos (by simp; omega), w64n i (by omega)]
      simp [ins]
    | succ d ih =>
      intro p hd hp hk
      have hlt : p < o.length := by omega
      rw [drop_cons_rd o p hlt] at hk
      unfold ins at hk
      by_cases hle : rd o p ≤ rd l i
      · rw [if_pos hle] at hk
        refine Ev.step (fun k => ?_) (ih (p + 1) (by omega) (by omega) ?_)
        · simp only [spec_l10Sort.l1]
          rw [if_pos (by omega), if_pos (by omega), if_pos (by omega), if_pos (by omega), if_pos hle, w64n p (by omega)]
        · rw [show o.take (p + 1) ++ ins (rd l i) (o.drop (p + 1)) = o.take p ++ rd o p :: ins (rd l i) (o.drop (p + 1)) by
            have hr : rd o (p : Int) = o[p] := by rw [rd_nat]; simp [List.getD, hlt]
            rw [List.take_succ_eq_append_getElem hlt, hr]; simp only [List.append_assoc, List.cons_append, List.nil_append]]
          exact hk
      · rw [if_neg hle, ← drop_cons_rd o p hlt] at hk
        refine Ev.step (fun k => ?_) hk
        simp only [spec_l10Sort.l1]
        rw [if_pos (by omega), if_pos (by omega), if_pos (by omega), if_pos (by omega), if_neg hle]
        simp only [Option.bind_some]
        rw [if_pos (by omega), show ((p : Int)).toNat = p by omega, if_pos (by simp; omega)]
        rw [own_spec _ (by simp; omega)]
        simp only [Option.bind_some]
        rw [if_pos (by simp; omega), w64n i (by omega)]
        simp
  have outer : ∀ (d i : Nat) (o : List Int), l.length - i = d → i ≤ l.length → o.length = i → Ev (fun k => spec_l10Sort.l0 k l o i) ((l.drop i).foldl (fun o x => ins x o) o) := by
    intro d
    induction d with
    | zero =>
      intro i o hd hi ho
      rw [List.drop_eq_nil_of_le (by omega)]
      refine Ev.step (f := fun _ => some o) (fun k => ?_) (Ev.now _)
      simp only [spec_l10Sort.l0]; rw [if_neg (by omega)]
    | succ d ih =>
      intro i o hd hi ho
      have hlt : i < l.length := by omega
      rw [drop_cons_rd l i hlt, List.foldl_cons]
      refine Ev.step (fun k => ?_) (inner _ i o hlt (by omega) o.length 0 (by omega) (by omega) ?_)
      · simp only [spec_l10Sort.l0]; rw [if_pos (by omega)]; rfl
      · simpa using ih (i + 1) (ins (rd l i) o) (by omega) (by omega) (by rw [ins_len]; omega)
  have := outer l.length 0 [] (by omega) (by omega) rfl
  rw [List.drop_zero, sortL_eq] at this
  exact this
theorem vectors_impl (a0 : Int) (x y : List Int) : impl_areVectors.f a0 [x, y] = some (isVec a0 x && (isVec a0 y && decide (y.length = x.length))) := by
  unfold impl_areVectors.f
  simp only [allO, vec_impl, Option.bind_some]
  cases isVec a0 x <;> cases isVec a0 y <;> simp
  all_goals (by_cases h : y.length = x.length <;> simp [h])
theorem both_spec (a0 : Int) (x y : List Int) : Ev (fun k => spec_l02Both.f k a0 x y) (isVec a0 x && (isVec a0 y && decide (y.length = x.length))) := by
  unfold spec_l02Both.f
  have h1 := vec_spec a0 x
  have h2 := vec_spec a0 y
  refine Ev.bind h1 ?_
  cases hx : isVec a0 x with
  | false => exact evelse (by simp) (by simpa using Ev.now _)
  | true =>
    refine evif rfl (Ev.bind h2 ?_)
    cases hy : isVec a0 y with
    | false => exact evelse (by simp) (by simpa using Ev.now _)
    | true =>
      refine evif rfl ?_
      have : ((x.length : Int) == (y.length : Int)) = (true && (true && decide (y.length = x.length))) := by
        rw [Bool.eq_iff_iff]; simp; omega
      rw [this]; exact Ev.now _
theorem both (a0 : Int) (l1 l2 : List Int) : ∃ (r1 r2 : List Int) (b : Bool), r1.length ≤ 16 ∧ r2.length ≤ 16 ∧ impl_MergeLanes.f a0 l1 l2 = some (r1, r2, b) ∧ Ev (fun k => spec_MergeLanes.f k a0 l1 l2) (r1, r2, b) := by
  have hb := both_spec a0 l1 l2
  have hi := vectors_impl a0 l1 l2
  have bad : ∀ r : List Int × List Int × Bool, r = ([], [], false) → Ev (fun k => spec_MergeLanes.j0 k l1 l2 true) r := by
    rintro r rfl
    refine Ev.step (f := fun _ => some (([] : List Int), ([] : List Int), false)) (fun k => ?_) (Ev.now _)
    simp only [spec_MergeLanes.j0]; rw [if_pos trivial]
  cases hv : (isVec a0 l1 && (isVec a0 l2 && decide (l2.length = l1.length))) with
  | false =>
    rw [hv] at hb hi
    refine ⟨[], [], false, by simp, by simp, ?_, ?_⟩
    · unfold impl_MergeLanes.f; rw [hi]; rfl
    · unfold spec_MergeLanes.f
      exact Ev.bind hb (evelse (by simp) (bad _ rfl))
  | true =>
    rw [hv] at hb hi
    simp only [Bool.and_eq_true, decide_eq_true_eq] at hv
    obtain ⟨v1, v2, he⟩ := hv
    have n1 := vec_len v1
    have n2 := vec_len v2
    obtain ⟨b1, hb1, e1⟩ := asc_impl l1 (by omega) n1.1
    obtain ⟨b2, hb2, e2⟩ := asc_impl l2 (by omega) n2.1
    have s1 := asc_spec l1 (by omega) b1 hb1
    have s2 := asc_spec l2 (by omega) b2 hb2
    cases b1 with
    | false =>
      refine ⟨[], [], false, by simp, by simp, ?_, ?_⟩
      · unfold impl_MergeLanes.f; rw [hi]; simp only [Option.bind_some]; rw [if_pos trivial, e1]; rfl
      · unfold spec_MergeLanes.f
        exact Ev.bind hb (evif rfl (Ev.bind s1 (evelse (by simp) (bad _ rfl))))
    | true =>
    cases b2 with
    | false =>
      refine ⟨[], [], false, by simp, by simp, ?_, ?_⟩
      · unfold impl_MergeLanes.f; rw [hi]; simp only [Option.bind_some]; rw [if_pos trivial, e1]; simp only [Option.bind_some]; rw [if_pos trivial, e2]; rfl
      · unfold spec_MergeLanes.f
        exact Ev.bind hb (evif rfl (Ev.bind s1 (evif rfl (Ev.bind s2 (bad _ rfl)))))
    | true =>
      have hsl : (sortL (l1 ++ l2)).length = l1.length + l2.length := by unfold sortL; simp
      refine ⟨(sortL (l1 ++ l2)).take l1.length, (sortL (l1 ++ l2)).drop l1.length, true, by simp; omega, by simp; omega, ?_, ?_⟩
      · unfold impl_MergeLanes.f; rw [hi]; simp only [Option.bind_some]; rw [if_pos trivial, e1]; simp only [Option.bind_some]; rw [if_pos trivial, e2]; simp only [Option.bind_some]
        rw [if_pos trivial, if_pos (by simp; omega)]
        unfold impl_halves.f slices_Clone_int64_int64.f
        have hw : wrap64 (((sortL (l1 ++ l2)).length : Int) / 2) = (l1.length : Int) := by rw [w64 (by omega)]; omega
        rw [hw, if_pos (by omega), if_pos (by omega), show ((l1.length : Int)).toNat = l1.length by omega, if_pos (by simp; omega), if_pos (by simp; omega)]
        rfl
      · unfold spec_MergeLanes.f
        refine Ev.bind hb (evif rfl (Ev.bind s1 (evif rfl (Ev.bind s2 ?_))))
        refine Ev.step (f := fun k => (spec_l10Sort.f k (l1 ++ l2)).bind fun t183 => (if 0 ≤ (l1.length : Int) then (if (l1.length : Int) ≤ (t183.length : Int) then ((spec_l00Own.f (t183.take ((l1.length : Int) : Int).toNat)).bind fun t190 => ((spec_l00Own.f (t183.drop ((l1.length : Int) : Int).toNat)).bind fun t197 => (some (t190, t197, true)))) else (none)) else (none))) (fun k => ?_) (Ev.bind (sort_spec (l1 ++ l2) (by simp; omega)) ?_)
        · simp only [spec_MergeLanes.j0]
          rw [if_neg (by simp), own_spec l1 (by omega)]
          simp only [Option.bind_some]
          rw [if_pos (by omega)]
        · refine evif (by omega) (evif (by omega) ?_)
          rw [show ((l1.length : Int)).toNat = l1.length by omega, own_spec _ (by simp; omega), own_spec _ (by simp; omega)]
          exact Ev.now _
end Go.Proofs.Ytfpcfaapoeeipaa.Mrg
namespace Go.Proofs.Ytfpcfaapoeeipaa.LawM
open Go.RowKit Go.Proofs.YtfpcfaapoeeipaaW.PrintWords Go.Proofs.YtfpcfaapoeeipaaW.PrintLast Go.Proofs.YtfpcfaapoeeipaaW.PrintMore Go.Proofs.Ytfpcfaapoeeipaa.P Go.Proofs.Ytfpcfaapoeeipaa.Bas Go.Proofs.Ytfpcfaapoeeipaa.Vec Go.Proofs.Ytfpcfaapoeeipaa.Mrg
theorem FnExactMergeLanes (a0 : Int) (l1 l2 : List Int) : ∃ k, laws_FnExactMergeLanes.f k a0 l1 l2 = some true := by
  apply Ev.rounds
  unfold laws_FnExactMergeLanes.f
  by_cases c1 : l1.length ≤ 1048576
  · refine evelse (by omega) ?_
    by_cases c2 : l2.length ≤ 1048576
    · refine evelse (by omega) ?_
      have t1 := toI l1 c1
      have t2 := toI l2 c2
      obtain ⟨r1, r2, b, h1, h2, e1, e2⟩ := both a0 l1 l2
      have e1' : Ev (fun k => impl_MergeLanes.f a0 l1 l2) (r1, r2, b) := ⟨0, fun _ _ => e1⟩
      have q1 := eqI r1 (by omega)
      have q2 := eqI r2 (by omega)
      obtain ⟨m1, _, g1, _⟩ := markI l1 1 (by omega)
      obtain ⟨m2, _, g2, _⟩ := markI l2 (1 + l1.length) (by omega)
      obtain ⟨m3, hm3, g3, g3'⟩ := markI r1 1 (by omega)
      obtain ⟨m4, hm4, g4, g4'⟩ := markI r2 (1 + r1.length) (by omega)
      refine Ev.bind t1 (Ev.bind t2 (Ev.bind e2 (Ev.bind t1 (Ev.bind t2 (Ev.bind e1' (Ev.bind q1 (evif (by first | rfl | trivial) (Ev.bind q2 (evif (by first | rfl | trivial) ?_)))))))))
      simp only [bne_self_eq_false]
      refine Ev.step (fun k => by simp only [laws_FnExactMergeLanes.j0]; rw [if_neg (by simp)]) ?_
      refine Ev.bind t1 (Ev.bind (eqI _ (by omega)) (evif (by first | rfl | trivial) (Ev.bind t2 (Ev.bind (eqI _ (by omega)) (evif (by first | rfl | trivial) (Ev.bind g1 (Ev.bind g2 (evelse (by simp only []; omega) (Ev.bind q1 (evif (by first | rfl | trivial) (Ev.bind q2 (evif (by first | rfl | trivial) ?_))))))))))))
      simp only [bne_self_eq_false]
      refine Ev.step (fun k => by simp only [laws_FnExactMergeLanes.j1]; rw [if_neg (by simp)]) ?_
      refine Ev.bind g3 (Ev.bind g4 (Ev.bind g3' (evelse (by omega) (Ev.bind g4' (evelse (by omega) (evif (by first | rfl | trivial) (Ev.bind t1 (Ev.bind t2 (Ev.bind e1' (Ev.bind q1 (evif (by first | rfl | trivial) (Ev.bind q2 (evif (by first | rfl | trivial) ?_)))))))))))))
      simp only [bne_self_eq_false]
      refine Ev.step (fun k => by simp only [laws_FnExactMergeLanes.j2]; rw [if_neg (by simp)]) ?_
      exact Ev.bind g3' (evelse (by omega) (Ev.bind g4' (evelse (by omega) (evif (by first | rfl | trivial) (Ev.now _)))))
    · exact evif (by omega) (Ev.now _)
  · exact evif (by omega) (Ev.now _)
end Go.Proofs.Ytfpcfaapoeeipaa.LawM
