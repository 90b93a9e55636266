/- Plain laws over the contracts' functions: what the law's function gives, for all arguments. -/
import Derived.Test.YtfpcfaapoeeipaaVdp1
set_option linter.unusedSimpArgs false
set_option linter.unusedVariables false
namespace Go.Proofs.Ytfpcfaapoeeipaa.Bas
open Go.RowKit Go.Proofs.YtfpcfaapoeeipaaW.PrintWords Go.Proofs.YtfpcfaapoeeipaaW.PrintLast Go.Proofs.YtfpcfaapoeeipaaW.PrintMore Go.Proofs.Ytfpcfaapoeeipaa.P
def IsB (b : Int) : Prop := b = 4 ∨ b = 8 ∨ b = 16
def pw (b : Int) : Int := if b = 4 then 16 else if b = 8 then 256 else 65536
theorem pw_bounds {b : Int} (h : IsB b) : (pw b = 16 ∨ pw b = 256 ∨ pw b = 65536) ∧ 4 ≤ b ∧ b ≤ 16 := by
  rcases h with rfl | rfl | rfl <;> decide
structure Bf (b : Int) : Prop where
  s : shl .i64 1 b = pw b
  m : wrap64 (pw b - 1) = pw b - 1
  h : shl .i64 1 (wrap64 (b - 1)) = pw b / 2
  u : IntKind.u64.wrap b = b
  u1 : IntKind.u64.wrap (wrap64 (b - 1)) = wrap64 (b - 1)
  w1 : 0 ≤ wrap64 (b - 1)
theorem bf {b : Int} (h : IsB b) : Bf b := by
  rcases h with rfl | rfl | rfl <;> exact ⟨by decide +kernel, by decide +kernel, by decide +kernel, by decide +kernel, by decide +kernel, by decide +kernel⟩
theorem w64 {x : Int} (h : -9223372036854775808 ≤ x ∧ x ≤ 9223372036854775807) : wrap64 x = x := by unfold wrap64; omega
theorem within_impl (n lo hi : Int) : impl_within.f n lo hi = some (decide (lo ≤ n ∧ n ≤ hi)) := by
  unfold impl_within.f
  by_cases h : lo ≤ n <;> simp [h]
theorem in_spec (n lo hi : Int) : spec_l00In.f n lo hi = some (decide (lo ≤ n ∧ n ≤ hi)) := by
  unfold spec_l00In.f
  by_cases h : lo ≤ n <;> simp [h]
def isB (b : Int) : Bool := decide (b = 4 ∨ b = 8 ∨ b = 16)
theorem isB_iff {b : Int} : isB b = true ↔ IsB b := by simp [isB, IsB]
theorem bits_impl (b : Int) : impl_isBits.f b = some (isB b) := by
  unfold impl_isBits.f isB
  by_cases h : b = 4 <;> by_cases h2 : b = 8 <;> by_cases h3 : b = 16 <;> simp [h, h2, h3] <;> omega
theorem bits_spec (b : Int) : spec_l01Bits.f b = some (isB b) := bits_impl b
def isW (b x : Int) : Bool := isB b && decide (0 ≤ x ∧ x ≤ pw b - 1)
theorem word_impl (b x : Int) : impl_IsWord.f b x = some (isW b x) := by
  unfold impl_IsWord.f isW
  rw [bits_impl]
  simp only [Option.bind_some]
  by_cases h : isB b = true
  · have hb := isB_iff.1 h
    have B := pw_bounds hb
    rw [if_pos h, if_pos (by omega), (bf hb).s, (bf hb).m, within_impl, h]; simp
  · simp only [Bool.not_eq_true] at h; rw [h]; simp
theorem word_spec (b x : Int) : spec_l01Word.f b x = some (isW b x) := by
  unfold spec_l01Word.f isW
  rw [bits_spec]
  simp only [Option.bind_some]
  by_cases h : isB b = true
  · have hb := isB_iff.1 h
    have B := pw_bounds hb
    rw [if_pos h, (bf hb).u, if_pos (by omega), (bf hb).s, (bf hb).m, in_spec, h]; simp
  · simp only [Bool.not_eq_true] at h; rw [h]; simp
theorem evif {α : Type} {c : Prop} [Decidable c] {a b : Nat → Option α} {r : α} (h : c) (k : Ev a r) : Ev (fun n => if c then a n else b n) r := by simp only [if_pos h]; exact k
theorem evelse {α : Type} {c : Prop} [Decidable c] {a b : Nat → Option α} {r : α} (h : ¬ c) (k : Ev b r) : Ev (fun n => if c then a n else b n) r := by simp only [if_neg h]; exact k
theorem rd_nat (xs : List Int) (j : Nat) : rd xs (j : Int) = xs.getD j 0 := rfl
theorem rd_set (xs : List Int) (a : Nat) (v : Int) (j : Nat) (h : a < xs.length) : rd (xs.set a v) (j : Int) = if j = a then v else rd xs (j : Int) := by
  rw [rd_nat, rd_nat]
  by_cases e : j = a
  · subst e; simp [h]
  · rw [if_neg e]; simp [List.getD, List.getElem?_set, Ne.symm e]
theorem w64n (i : Nat) (h : i ≤ 100000) : wrap64 ((i : Int) + 1) = ((i + 1 : Nat) : Int) := by rw [w64 (by omega)]; omega
theorem drop_cons_rd (xs : List Int) (q : Nat) (h : q < xs.length) : xs.drop q = rd xs (q : Int) :: xs.drop (q + 1) := by
  rw [List.drop_eq_getElem_cons h, rd_nat]; simp [List.getD, h]
theorem w64N (i : Nat) (h : i ≤ 4611686018427387904) : wrap64 ((i : Int) + 1) = ((i + 1 : Nat) : Int) := by rw [w64 (by omega)]; omega
theorem set_take_drop {α : Type} (xs ys : List α) (i : Nat) (v : α) (h : i < xs.length) (hv : ys[i]? = some v) : (ys.take i ++ xs.drop i).set i v = ys.take (i + 1) ++ xs.drop (i + 1) := by
  have hy : i < ys.length := by
    rcases Nat.lt_or_ge i ys.length with h1 | h1
    · exact h1
    · rw [List.getElem?_eq_none h1] at hv; cases hv
  have e : ys[i] = v := by rw [List.getElem?_eq_getElem hy] at hv; exact Option.some.inj hv
  apply List.ext_getElem?
  intro j
  by_cases hj : j = i
  · subst hj
    rw [List.getElem?_set_self (by simp; omega), List.getElem?_append_left (by simp; omega), List.getElem?_take]
    simp [hv]
  · rw [List.getElem?_set_ne (Ne.symm hj)]
    rcases Nat.lt_or_ge j i with h1 | h1
    · rw [List.getElem?_append_left (by simp; omega), List.getElem?_append_left (by simp; omega), List.getElem?_take, List.getElem?_take]
      simp [h1, show j < i + 1 by omega]
    · rw [List.getElem?_append_right (by simp; omega), List.getElem?_append_right (by simp; omega), List.getElem?_drop, List.getElem?_drop]
      congr 1; simp; omega
theorem rd_some (xs : List Int) (i : Nat) (h : i < xs.length) : xs[i]? = some (rd xs (i : Int)) := by rw [rd_nat]; simp [List.getD, h]
theorem toI (l : List Int) (h : l.length ≤ 1048576) : Ev (fun k => laws_toInt64S.f k l) l := by
  have key : ∀ (d i : Nat), l.length - i = d → i ≤ l.length → Ev (fun k => laws_toInt64S.l0 k l (l.take i ++ (List.replicate l.length 0).drop i) i) l := by
    intro d
    induction d with
    | zero =>
      intro i hd hi
      have : i = l.length := by omega
      subst this
      refine Ev.step (f := fun _ => some l) (fun k => ?_) (Ev.now _)
      simp only [laws_toInt64S.l0]; rw [if_neg (by omega)]; simp
    | succ d ih =>
      intro i hd hi
      refine Ev.step (fun k => ?_) (ih (i + 1) (by omega) (by omega))
      simp only [laws_toInt64S.l0]
      rw [if_pos (by omega), if_pos (by omega), if_pos (by simp; omega), w64N i (by omega), show ((i : Int)).toNat = i by omega, set_take_drop _ _ _ _ (by simp; omega) (rd_some l i (by omega))]
  have := key l.length 0 (by omega) (by omega)
  simp only [List.take_zero, List.drop_zero, List.nil_append] at this
  unfold laws_toInt64S.f
  refine evif (by omega) (evif (by omega) ?_)
  rw [show ((l.length : Int)).toNat = l.length by omega]
  exact this
theorem eqI (l : List Int) (h : l.length ≤ 4611686018427387904) : Ev (fun k => laws_eqInt64S.f k l l) true := by
  have key : ∀ (d i : Nat), l.length - i = d → i ≤ l.length → Ev (fun k => laws_eqInt64S.l0 k l l i) true := by
    intro d
    induction d with
    | zero =>
      intro i hd hi
      refine Ev.step (f := fun _ => some true) (fun k => ?_) (Ev.now _)
      simp only [laws_eqInt64S.l0]; rw [if_neg (by omega)]
    | succ d ih =>
      intro i hd hi
      refine Ev.step (fun k => ?_) (ih (i + 1) (by omega) (by omega))
      simp only [laws_eqInt64S.l0]
      rw [if_pos (by omega), if_pos (by omega), if_pos (by omega), if_pos trivial, w64N i (by omega)]
  unfold laws_eqInt64S.f
  exact evif rfl (key l.length 0 (by omega) (by omega))
theorem markI (l : List Int) (m : Nat) (h : m + l.length ≤ 4611686018427387904) :
    ∃ l', l'.length = l.length ∧ Ev (fun k => laws_markInt64S.f k l m) (((m + l.length : Nat) : Int), l') ∧ Ev (fun k => laws_heldInt64S.f k l' m) ((m + l.length : Nat) : Int) := by
  have key : ∀ (d i : Nat) (x : List Int), l.length - i = d → i ≤ l.length → x.length = l.length → (∀ j : Nat, j < i → rd x j = ((m + j : Nat) : Int)) →
      ∃ l', l'.length = l.length ∧ (∀ j : Nat, j < l.length → rd l' j = ((m + j : Nat) : Int)) ∧ Ev (fun k => laws_markInt64S.l0 k x ((m + i : Nat) : Int) i) (((m + l.length : Nat) : Int), l') := by
    intro d
    induction d with
    | zero =>
      intro i x hd hi hx hr
      have : i = l.length := by omega
      subst this
      refine ⟨x, hx, hr, Ev.step (f := fun _ => some (((m + l.length : Nat) : Int), x)) (fun k => ?_) (Ev.now _)⟩
      simp only [laws_markInt64S.l0]; rw [if_neg (by omega)]
    | succ d ih =>
      intro i x hd hi hx hr
      obtain ⟨l', h1, h2, h3⟩ := ih (i + 1) (x.set i ((m + i : Nat) : Int)) (by omega) (by omega) (by simp [hx]) (fun j hj => by
        rw [rd_set _ _ _ _ (by omega)]
        by_cases e : j = i
        · rw [if_pos e, e]
        · rw [if_neg e]; exact hr j (by omega))
      refine ⟨l', h1, h2, Ev.step (fun k => ?_) h3⟩
      simp only [laws_markInt64S.l0]
      rw [if_pos (by omega), if_pos (by omega), w64N i (by omega), w64N (m + i) (by omega)]
      rfl
  obtain ⟨l', h1, h2, h3⟩ := key l.length 0 l (by omega) (by omega) rfl (fun j hj => by omega)
  refine ⟨l', h1, h3, ?_⟩
  have key2 : ∀ (d i : Nat), l.length - i = d → i ≤ l.length → Ev (fun k => laws_heldInt64S.l0 k l' ((m + i : Nat) : Int) i) ((m + l.length : Nat) : Int) := by
    intro d
    induction d with
    | zero =>
      intro i hd hi
      have : i = l.length := by omega
      subst this
      refine Ev.step (f := fun _ => some ((m + l.length : Nat) : Int)) (fun k => ?_) (Ev.now _)
      simp only [laws_heldInt64S.l0]; rw [if_neg (by omega)]
    | succ d ih =>
      intro i hd hi
      refine Ev.step (fun k => ?_) (ih (i + 1) (by omega) (by omega))
      simp only [laws_heldInt64S.l0]
      rw [if_pos (by omega), if_pos (by omega), h2 i (by omega), if_pos rfl, w64N i (by omega), w64N (m + i) (by omega)]
      rfl
  exact key2 l.length 0 (by omega) (by omega)
end Go.Proofs.Ytfpcfaapoeeipaa.Bas
namespace Go.Proofs.Ytfpcfaapoeeipaa.Unq
open Go.RowKit Go.Proofs.YtfpcfaapoeeipaaW.PrintWords Go.Proofs.YtfpcfaapoeeipaaW.PrintLast Go.Proofs.YtfpcfaapoeeipaaW.PrintMore Go.Proofs.Ytfpcfaapoeeipaa.P Go.Proofs.Ytfpcfaapoeeipaa.Bas
theorem rising_eq : ∀ xs ys : List Int, xs.Pairwise (· < ·) → ys.Pairwise (· < ·) → (∀ z, z ∈ xs ↔ z ∈ ys) → xs = ys
  | [], [], _, _, _ => rfl
  | [], y :: ys, _, _, h => by have := (h y).2 (by simp); simp at this
  | x :: xs, [], _, _, h => by have := (h x).1 (by simp); simp at this
  | x :: xs, y :: ys, hx, hy, h => by
    rw [List.pairwise_cons] at hx hy
    have e : x = y := by
      have h1 := (h x).1 (by simp)
      have h2 := (h y).2 (by simp)
      rcases List.mem_cons.1 h1 with h1 | h1
      · exact h1
      · rcases List.mem_cons.1 h2 with h2 | h2
        · exact h2.symm
        · have := hx.1 y h2; have := hy.1 x h1; omega
    subst e
    congr 1
    refine rising_eq xs ys hx.2 hy.2 (fun z => ⟨fun hz => ?_, fun hz => ?_⟩)
    · rcases List.mem_cons.1 ((h z).1 (List.mem_cons_of_mem _ hz)) with h1 | h1
      · have := hx.1 z hz; omega
      · exact h1
    · rcases List.mem_cons.1 ((h z).2 (List.mem_cons_of_mem _ hz)) with h1 | h1
      · have := hy.1 z hz; omega
      · exact h1
def put (n : Int) : List Int → List Int
  | [] => [n]
  | y :: ys => if y < n then y :: put n ys else if y = n then y :: ys else n :: y :: ys
theorem mem_put (n z : Int) : ∀ l : List Int, z ∈ put n l ↔ z = n ∨ z ∈ l
  | [] => by simp [put]
  | y :: ys => by
    unfold put
    split
    · simp only [List.mem_cons, mem_put n z ys]
      constructor
      · rintro (h | h | h) <;> simp [h]
      · rintro (h | h | h) <;> simp [h]
    · split
      · rename_i h1 h2
        simp only [List.mem_cons]
        constructor
        · exact fun h => .inr h
        · rintro (h | h | h)
          · exact .inl (by omega)
          · exact .inl h
          · exact .inr h
      · simp
theorem put_rises (n : Int) : ∀ l : List Int, l.Pairwise (· < ·) → (put n l).Pairwise (· < ·)
  | [], _ => by simp [put]
  | y :: ys, h => by
    have h' := h
    rw [List.pairwise_cons] at h
    unfold put
    split
    · rename_i h1
      rw [List.pairwise_cons]
      refine ⟨fun z hz => ?_, put_rises n ys h.2⟩
      rcases (mem_put n z ys).1 hz with e | e
      · omega
      · exact h.1 z e
    · split
      · exact h'
      · rename_i h1 h2
        rw [List.pairwise_cons]
        refine ⟨fun z hz => ?_, h'⟩
        rcases List.mem_cons.1 hz with e | e
        · omega
        · have := h.1 z e; omega
theorem put_length (n : Int) : ∀ l : List Int, (put n l).length ≤ l.length + 1
  | [] => by simp [put]
  | y :: ys => by
    have := put_length n ys
    unfold put
    split
    · simp; omega
    · split <;> simp
theorem put_spec (xs : List Int) (n : Int) (hl : xs.length ≤ 100000) : Ev (fun k => spec_l00Put.f k xs n) (put n xs) := by
  -- behind the place: the rest is taken over
  have rest : ∀ (d i : Nat) (out : List Int), xs.length - i = d → i ≤ xs.length → out.length ≤ 200000 + i → Ev (fun k => spec_l00Put.l0 k xs n out true i) (out ++ xs.drop i) := by
    intro d
    induction d with
    | zero =>
      intro i out hd hi ho
      rw [List.drop_eq_nil_of_le (by omega), List.append_nil]
      refine Ev.step (f := fun _ => some out) (fun k => ?_) (Ev.now _)
      simp only [spec_l00Put.l0]; rw [if_neg (by omega)]; simp
    | succ d ih =>
      intro i out hd hi ho
      have hlt : i < xs.length := by omega
      rw [drop_cons_rd xs i hlt, show out ++ rd xs (i : Int) :: xs.drop (i + 1) = (out ++ [rd xs (i : Int)]) ++ xs.drop (i + 1) by simp]
      refine Ev.step (f := fun k => spec_l00Put.j1 k xs n out true i false) (fun k => ?_) (Ev.step (fun k => ?_) (ih (i + 1) (out ++ [rd xs (i : Int)]) (by omega) (by omega) (by simp; omega)))
      · simp only [spec_l00Put.l0]; rw [if_pos (by omega)]; simp
      · simp only [spec_l00Put.j1]; rw [if_neg (by simp), if_pos (by omega), if_pos (by omega), if_pos (by omega), w64n i (by omega)]
  have go : ∀ (d i : Nat) (out : List Int), xs.length - i = d → i ≤ xs.length → out.length = i → Ev (fun k => spec_l00Put.l0 k xs n out false i) (out ++ put n (xs.drop i)) := by
    intro d
    induction d with
    | zero =>
      intro i out hd hi ho
      rw [List.drop_eq_nil_of_le (by omega)]
      refine Ev.step (f := fun _ => some (out ++ [n])) (fun k => ?_) (Ev.now _)
      simp only [spec_l00Put.l0]; rw [if_neg (by omega)]; simp; omega
    | succ d ih =>
      intro i out hd hi ho
      have hlt : i < xs.length := by omega
      rw [drop_cons_rd xs i hlt]
      by_cases hge : rd xs i ≥ n
      · refine Ev.step (f := fun k => spec_l00Put.j1 k xs n out false i true) (fun k => ?_) ?_
        · simp only [spec_l00Put.l0]; rw [if_pos (by omega), if_neg (by simp), if_pos (by omega), decide_eq_true hge]
        · unfold put
          rw [if_neg (by omega)]
          by_cases heq : rd xs i = n
          · rw [if_pos heq]
            have := rest d (i + 1) (out ++ [rd xs (i : Int)]) (by omega) (by omega) (by simp; omega)
            rw [show (out ++ [rd xs (i : Int)]) ++ xs.drop (i + 1) = out ++ rd xs (i : Int) :: xs.drop (i + 1) by simp] at this
            refine Ev.step (fun k => ?_) this
            simp only [spec_l00Put.j1]; rw [if_pos trivial, if_pos (by omega), if_pos (by omega), if_neg (by omega), if_pos (by omega), w64n i (by omega)]
          · rw [if_neg heq]
            have := rest d (i + 1) (out ++ [n] ++ [rd xs (i : Int)]) (by omega) (by omega) (by simp; omega)
            rw [show (out ++ [n] ++ [rd xs (i : Int)]) ++ xs.drop (i + 1) = out ++ n :: rd xs (i : Int) :: xs.drop (i + 1) by simp] at this
            refine Ev.step (fun k => ?_) this
            simp only [spec_l00Put.j1]; rw [if_pos trivial, if_pos (by omega), if_pos (by omega), if_pos (by omega), if_pos (by omega)]
            simp only [Option.bind_some]
            rw [if_pos (by simp; omega), w64n i (by omega)]
      · unfold put
        rw [if_pos (by omega)]
        have := ih (i + 1) (out ++ [rd xs (i : Int)]) (by omega) (by omega) (by simp; omega)
        rw [show (out ++ [rd xs (i : Int)]) ++ put n (xs.drop (i + 1)) = out ++ rd xs (i : Int) :: put n (xs.drop (i + 1)) by simp] at this
        refine Ev.step (f := fun k => spec_l00Put.j1 k xs n out false i false) (fun k => ?_) (Ev.step (fun k => ?_) this)
        · simp only [spec_l00Put.l0]; rw [if_pos (by omega), if_neg (by simp), if_pos (by omega), decide_eq_false hge]
        · simp only [spec_l00Put.j1]; rw [if_neg (by simp), if_pos (by omega), if_pos (by omega), if_pos (by omega), w64n i (by omega)]
  have := go xs.length 0 [] (by omega) (by omega) rfl
  simp only [List.drop_zero, List.nil_append] at this
  exact this
def puts (l : List Int) : List Int := l.foldl (fun o x => put x o) []
theorem puts_facts : ∀ (l o : List Int), o.Pairwise (· < ·) → (l.foldl (fun o x => put x o) o).Pairwise (· < ·) ∧ (∀ z, z ∈ l.foldl (fun o x => put x o) o ↔ z ∈ l ∨ z ∈ o) ∧ (l.foldl (fun o x => put x o) o).length ≤ l.length + o.length
  | [], o, h => ⟨h, by simp, by simp⟩
  | x :: l, o, h => by
    obtain ⟨h1, h2, h3⟩ := puts_facts l (put x o) (put_rises x o h)
    have := put_length x o
    refine ⟨h1, fun z => ?_, by simp only [List.foldl_cons, List.length_cons]; omega⟩
    simp only [List.foldl_cons, List.mem_cons, h2, mem_put]
    constructor
    · rintro (h | h | h) <;> simp [h]
    · rintro ((h | h) | h) <;> simp [h]
section
open Go.Lib
theorem compact_facts (d : Array Int) (hs : ∀ i j : Nat, i ≤ j → j < d.size → d[i]! ≤ d[j]!) : (compactUpTo d d.size).Pairwise (· < ·) ∧ (∀ z, z ∈ compactUpTo d d.size ↔ z ∈ d.toList) ∧ (compactUpTo d d.size).length ≤ d.size := by
  unfold compactUpTo
  refine ⟨?_, fun z => ?_, ?_⟩
  · rw [List.pairwise_map]
    have hp : ((List.range d.size).filter (keeps d)).Pairwise (· < ·) := List.Pairwise.filter _ List.pairwise_lt_range
    refine List.Pairwise.imp_of_mem ?_ hp
    intro a b ha hb hab
    rw [List.mem_filter, List.mem_range] at ha hb
    have hk := hb.2
    unfold keeps at hk
    simp only [decide_eq_true_eq] at hk
    have h1 := hs a (b - 1) (by omega) (by omega)
    have h2 := hs (b - 1) b (by omega) hb.1
    rcases hk with hk | hk
    · omega
    · have : d[b - 1]! ≠ d[b]! := fun e => hk e.symm
      omega
  · simp only [List.mem_map, List.mem_filter, List.mem_range]
    constructor
    · rintro ⟨j, ⟨hj, _⟩, rfl⟩
      rw [getElem!_pos d j hj]; exact Array.getElem_mem_toList hj
    · intro hz
      have key : ∀ j : Nat, j < d.size → d[j]! = z → ∃ a, (a < d.size ∧ keeps d a = true) ∧ d[a]! = z := by
        intro j
        induction j with
        | zero => intro hj he; exact ⟨0, ⟨hj, by simp [keeps]⟩, he⟩
        | succ j ih =>
          intro hj he
          by_cases hp : d[j]! = z
          · exact ih (by omega) hp
          · refine ⟨j + 1, ⟨hj, ?_⟩, he⟩
            unfold keeps
            simp only [decide_eq_true_eq, Nat.add_sub_cancel]
            exact .inr (fun e => hp (by rw [← e]; exact he))
      obtain ⟨j, hj, he⟩ := List.getElem_of_mem hz
      exact key j (by simpa using hj) (by rw [getElem!_pos d j (by simpa using hj)]; simpa using he)
  · rw [List.length_map]
    have := List.length_filter_le (keeps d) (List.range d.size)
    simpa using this
theorem uniqL_facts (l : List Int) : (uniqL l).Pairwise (· < ·) ∧ (∀ z, z ∈ uniqL l ↔ z ∈ l) ∧ (uniqL l).length ≤ l.length := by
  unfold uniqL
  have hsort := List.pairwise_mergeSort (le := fun (x y : Int) => decide (x ≤ y)) (by intro a b c; simp; omega) (by intro a b; simp; omega) l
  obtain ⟨s, hsd⟩ : ∃ s, s = l.mergeSort (fun x y => decide (x ≤ y)) := ⟨_, rfl⟩
  rw [← hsd] at hsort ⊢
  have hlen : s.length = l.length := by rw [hsd]; simp
  obtain ⟨h1, h2, h3⟩ := compact_facts s.toArray (by
    intro i j hij hj
    have hj' : j < s.length := by simpa using hj
    rw [getElem!_pos s.toArray i (by simp; omega), getElem!_pos s.toArray j hj]
    simp only [List.getElem_toArray]
    rcases Nat.lt_or_ge i j with h | h
    · have := List.pairwise_iff_getElem.1 hsort i j (by omega) hj' h
      simpa using this
    · have : i = j := by omega
      subst this; exact Int.le_refl _)
  simp only [List.size_toArray] at h1 h2 h3
  refine ⟨h1, fun z => ?_, by omega⟩
  rw [h2 z]; simp [hsd]
theorem uniqL_eq (l : List Int) : uniqL l = puts l := by
  obtain ⟨h1, h2, _⟩ := uniqL_facts l
  obtain ⟨g1, g2, _⟩ := puts_facts l [] (by simp)
  exact rising_eq _ _ h1 g1 (fun z => by rw [h2]; unfold puts; rw [g2]; simp)
end
end Go.Proofs.Ytfpcfaapoeeipaa.Unq
namespace Go.Proofs.Ytfpcfaapoeeipaa.Vec
open Go.RowKit Go.Proofs.YtfpcfaapoeeipaaW.PrintWords Go.Proofs.YtfpcfaapoeeipaaW.PrintLast Go.Proofs.YtfpcfaapoeeipaaW.PrintMore Go.Proofs.Ytfpcfaapoeeipaa.P Go.Proofs.Ytfpcfaapoeeipaa.Bas
def isL (n : Int) : Bool := decide (n = 2 ∨ n = 4 ∨ n = 8 ∨ n = 16)
theorem lanes_impl (n : Int) : impl_isLanes.f n = some (isL n) := by
  unfold impl_isLanes.f isL
  by_cases h2 : n = 2 <;> by_cases h4 : n = 4 <;> by_cases h8 : n = 8 <;> by_cases h16 : n = 16 <;> simp [h2, h4, h8, h16] <;> omega
theorem lanes_spec (n : Int) : spec_l02Lanes.f n = some (isL n) := lanes_impl n
theorem allO_all {α : Type} (q : α → Bool) : ∀ xs : List α, allO (fun x => some (q x)) xs = some (xs.all q)
  | [] => rfl
  | x :: xs => by
    simp only [allO, Option.bind_some, List.all_cons]
    cases h : q x
    · simp
    · simp [allO_all q xs]
theorem words_spec (a0 : Int) (v : List Int) (hl : v.length ≤ 100000) : Ev (fun k => spec_l01Words.f k a0 v) (v.all (isW a0) && isB a0) := by
  have key : ∀ (d i : Nat), v.length - i = d → i ≤ v.length → Ev (fun k => spec_l01Words.l0 k a0 v i) ((v.drop i).all (isW a0) && isB a0) := by
    intro d
    induction d with
    | zero =>
      intro i hd hi
      have : i = v.length := by omega
      subst this
      refine Ev.step (f := fun _ => some (isB a0)) (fun k => ?_) ?_
      · simp only [spec_l01Words.l0]; rw [if_neg (by omega), bits_spec]; rfl
      · simp; exact Ev.now _
    | succ d ih =>
      intro i hd hi
      have hlt : i < v.length := by omega
      rw [drop_cons_rd v i hlt, List.all_cons]
      refine Ev.step (f := fun k => if isW a0 (rd v i) = true then spec_l01Words.l0 k a0 v ((i + 1 : Nat) : Int) else some false) (fun k => ?_) ?_
      · simp only [spec_l01Words.l0]; rw [if_pos (by omega), if_pos (by omega), word_spec, w64n i (by omega)]; rfl
      · cases hw : isW a0 (rd v i) with
        | false => refine evelse (by simp) ?_; simp; exact Ev.now _
        | true => refine evif rfl ?_; simpa using ih (i + 1) (by omega) (by omega)
  have := key v.length 0 (by omega) (by omega)
  simp only [List.drop_zero] at this
  exact this
def isVec (a0 : Int) (v : List Int) : Bool := isB a0 && (isL v.length && v.all (isW a0))
theorem vec_impl (a0 : Int) (v : List Int) : impl_IsVector.f a0 v = some (isVec a0 v) := by
  unfold impl_IsVector.f isVec
  rw [bits_impl]
  simp only [Option.bind_some]
  rw [show impl_IsWord.f a0 = fun x => some (isW a0 x) from funext (word_impl a0), allO_all, lanes_impl]
  simp only [Option.bind_some]
  cases isB a0 <;> cases isL v.length <;> simp
theorem isL_len {n : Nat} (h : isL (n : Int) = true) : 2 ≤ n ∧ n ≤ 16 := by
  unfold isL at h; simp at h; omega
theorem vec_spec (a0 : Int) (v : List Int) : Ev (fun k => spec_l02Is.f k a0 v) (isVec a0 v) := by
  unfold spec_l02Is.f isVec
  rw [lanes_spec]
  simp only [Option.bind_some]
  cases hL : isL v.length with
  | false => refine evelse (by simp) ?_; simp; exact Ev.now _
  | true =>
    have := isL_len hL
    refine evif rfl ?_
    rw [show (isB a0 && (true && v.all (isW a0))) = (v.all (isW a0) && isB a0) by simp [Bool.and_comm]]
    exact Ev.bind (words_spec a0 v (by omega)) (Ev.now _)
theorem vec_len {a0 : Int} {v : List Int} (h : isVec a0 v = true) : 2 ≤ v.length ∧ v.length ≤ 16 := by
  unfold isVec at h
  simp only [Bool.and_eq_true] at h
  exact isL_len h.2.1
end Go.Proofs.Ytfpcfaapoeeipaa.Vec
namespace Go.Proofs.Ytfpcfaapoeeipaa.LawU
open Go.RowKit Go.Proofs.YtfpcfaapoeeipaaW.PrintWords Go.Proofs.YtfpcfaapoeeipaaW.PrintLast Go.Proofs.YtfpcfaapoeeipaaW.PrintMore Go.Proofs.Ytfpcfaapoeeipaa.P Go.Proofs.Ytfpcfaapoeeipaa.Bas Go.Proofs.Ytfpcfaapoeeipaa.Unq Go.Proofs.Ytfpcfaapoeeipaa.Vec
theorem uniq_spec (l : List Int) (hl : l.length ≤ 16) : Ev (fun k => spec_UniqueLanes.l0 k l [] 0) (puts l ++ List.replicate (l.length - (puts l).length) 0, ((puts l).length : Int), true) := by
  have hp := (puts_facts l [] (by simp)).2.2
  have fill : ∀ (d : Nat) (o : List Int) (n : Int), l.length - o.length = d → Ev (fun k => spec_UniqueLanes.l1 k l o n) (o ++ List.replicate (l.length - o.length) 0, n, true) := by
    intro d
    induction d with
    | zero =>
      intro o n hd
      rw [hd]
      refine Ev.step (f := fun _ => some (o ++ List.replicate 0 0, n, true)) (fun k => ?_) (Ev.now _)
      simp only [spec_UniqueLanes.l1]; rw [if_neg (by omega)]; simp
    | succ d ih =>
      intro o n hd
      have := ih (o ++ [(0 : Int)]) n (by simp; omega)
      rw [show (o ++ [(0 : Int)]) ++ List.replicate (l.length - (o ++ [(0 : Int)]).length) 0 = o ++ List.replicate (l.length - o.length) 0 by
        rw [show l.length - o.length = (l.length - (o ++ [(0 : Int)]).length) + 1 by simp; omega, List.replicate_succ]; simp] at this
      refine Ev.step (fun k => ?_) this
      simp only [spec_UniqueLanes.l1]; rw [if_pos (by omega), if_pos (by omega)]
  have go : ∀ (d i : Nat) (o : List Int), l.length - i = d → i ≤ l.length → o.length ≤ i →
      Ev (fun k => spec_UniqueLanes.l0 k l o i) ((l.drop i).foldl (fun o x => put x o) o ++ List.replicate (l.length - ((l.drop i).foldl (fun o x => put x o) o).length) 0, (((l.drop i).foldl (fun o x => put x o) o).length : Int), true) := by
    intro d
    induction d with
    | zero =>
      intro i o hd hi ho
      rw [List.drop_eq_nil_of_le (by omega)]
      refine Ev.step (fun k => ?_) (fill _ o (o.length : Int) rfl)
      simp only [spec_UniqueLanes.l0]; rw [if_neg (by omega)]
    | succ d ih =>
      intro i o hd hi ho
      have hlt : i < l.length := by omega
      have hpl := put_length (rd l i) o
      rw [drop_cons_rd l i hlt, List.foldl_cons]
      refine Ev.step (f := fun k => (spec_l00Put.f k o (rd l i)).bind fun t => spec_UniqueLanes.l0 k l t ((i + 1 : Nat) : Int)) (fun k => ?_) (Ev.bind (put_spec o _ (by omega)) (ih (i + 1) (put (rd l i) o) (by omega) (by omega) (by omega)))
      simp only [spec_UniqueLanes.l0]; rw [if_pos (by omega), if_pos (by omega), w64n i (by omega)]
  have := go l.length 0 [] (by omega) (by omega) (by simp)
  simpa [puts] using this
theorem both (a0 : Int) (l : List Int) : ∃ (r : List Int) (n : Int) (b : Bool), r.length ≤ 16 ∧ impl_UniqueLanes.f a0 l = some (r, n, b) ∧ Ev (fun k => spec_UniqueLanes.f k a0 l) (r, n, b) := by
  cases hv : isVec a0 l with
  | false =>
    refine ⟨[], 0, false, by simp, ?_, ?_⟩
    · unfold impl_UniqueLanes.f; rw [vec_impl, hv]; rfl
    · unfold spec_UniqueLanes.f
      have := vec_spec a0 l
      rw [hv] at this
      exact Ev.bind this (evelse (by simp) (Ev.now _))
  | true =>
    have hl := vec_len hv
    have hu := (uniqL_facts l).2.2
    refine ⟨puts l ++ List.replicate (l.length - (puts l).length) 0, ((puts l).length : Int), true, ?_, ?_, ?_⟩
    · have hp := (puts_facts l [] (by simp)).2.2
      have : (puts l).length ≤ l.length := by simpa [puts] using hp
      simp; omega
    · unfold impl_UniqueLanes.f; rw [vec_impl, hv]
      simp only [Option.bind_some]
      rw [if_pos trivial, if_pos ⟨by omega, by omega, hu⟩, uniqL_eq]
    · unfold spec_UniqueLanes.f
      have := vec_spec a0 l
      rw [hv] at this
      exact Ev.bind this (evif rfl (uniq_spec l (by omega)))
theorem FnExactUniqueLanes (a0 : Int) (l1 : List Int) : ∃ k, laws_FnExactUniqueLanes.f k a0 l1 = some true := by
  apply Ev.rounds
  unfold laws_FnExactUniqueLanes.f
  by_cases c2 : l1.length ≤ 1048576
  · refine evelse (by omega) ?_
    have t2 := toI l1 c2
    obtain ⟨r, n, b, hr, e1, e2⟩ := both a0 l1
    have e1' : Ev (fun k => impl_UniqueLanes.f a0 l1) (r, n, b) := ⟨0, fun _ _ => e1⟩
    have eqp := eqI r (by omega)
    obtain ⟨m2, _, g2, _⟩ := markI l1 1 (by omega)
    obtain ⟨m3, hm3, g3, g4⟩ := markI r 1 (by omega)
    refine Ev.bind t2 (Ev.bind e2 (Ev.bind t2 (Ev.bind e1' (Ev.bind eqp (evif (by first | rfl | trivial) (evif (by first | rfl | trivial) ?_))))))
    simp only [bne_self_eq_false]
    refine Ev.step (fun k => by simp only [laws_FnExactUniqueLanes.j0]; rw [if_neg (by simp)]) ?_
    refine Ev.bind t2 (Ev.bind (eqI _ (by omega)) (evif (by first | rfl | trivial) (Ev.bind g2 (evelse (by simp only []; omega) (Ev.bind eqp (evif (by first | rfl | trivial) (evif (by first | rfl | trivial) ?_)))))))
    simp only [bne_self_eq_false]
    refine Ev.step (fun k => by simp only [laws_FnExactUniqueLanes.j1]; rw [if_neg (by simp)]) ?_
    refine Ev.bind g3 (Ev.bind g4 (evelse (by omega) (evif (by first | rfl | trivial) (Ev.bind t2 (Ev.bind e1' (Ev.bind eqp (evif (by first | rfl | trivial) (evif (by first | rfl | trivial) ?_))))))))
    simp only [bne_self_eq_false]
    refine Ev.step (fun k => by simp only [laws_FnExactUniqueLanes.j2]; rw [if_neg (by simp)]) ?_
    exact Ev.bind g4 (evelse (by omega) (evif (by first | rfl | trivial) (Ev.now _)))
  · exact evif (by omega) (Ev.now _)
end Go.Proofs.Ytfpcfaapoeeipaa.LawU
