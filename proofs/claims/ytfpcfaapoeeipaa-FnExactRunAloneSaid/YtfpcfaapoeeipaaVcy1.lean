/- Lemmas of this session that the contracts and the row use. -/
import Derived.Test.YtfpcfaapoeeipaaVcw0
import Derived.Test.YtfpcfaapoeeipaaVcy0
import Derived.Maps.OwnOps
import Derived.Maps.Views
import Derived.Maps.OwnSet
namespace Go.Proofs.YtfpcfaapoeeipaaW.PrintMore
open Go.RowKit Go.Proofs.YtfpcfaapoeeipaaW.PrintWords
structure Ent where
  v : Value
  e : Nat
  xs : List Value
def apartE (x y : Ent) : Prop := x.v.ownBlock = none ∨ x.v.ownBlock ≠ y.v.ownBlock
structure Bun (w : World) (base : Nat) (E : List Ent) : Prop where
  own : ∀ x ∈ E, w.ownsRow base x.e 1 x.v x.xs.length x.xs
  apart : ∀ (i j : Nat) (x y : Ent), E[i]? = some x → E[j]? = some y → i ≠ j → apartE x y
section
variable {w w1 : World} {base : Nat} {E : List Ent}
theorem Bun.nil (w : World) (base : Nat) : Bun w base [] := ⟨by simp, by simp⟩
theorem Bun.row (B : Bun w base E) {i : Nat} {x : Ent} (h : E[i]? = some x) : w.ownsRow base x.e 1 x.v x.xs.length x.xs := B.own x (List.mem_of_getElem? h)
theorem Bun.below (B : Bun w base E) (hb : Below w.heap.size w w1) : Bun w1 base E := ⟨fun x hx => pw_own_below (B.own x hx) hb, B.apart⟩
theorem Bun.alloc (B : Bun w base E) (o : Obj) : Bun (w.alloc o) base E := B.below (below_alloc (Below.refl _ _) o)
theorem Bun.drew (B : Bun w base E) : Bun w.drew base E := B.below (below_drew1 (Below.refl _ _))
theorem Bun.drewN (B : Bun w base E) (n : Nat) : Bun (w.drewN n) base E := B.below (pw_below_drewN (Below.refl _ _) n)
theorem Bun.sub (B : Bun w base E) {F : List Ent} (f : Nat → Nat) (hf : ∀ i j, f i = f j → i = j) (h : ∀ i x, F[i]? = some x → E[f i]? = some x) : Bun w base F :=
  ⟨fun x hx => by obtain ⟨i, hi⟩ := List.mem_iff_getElem?.1 hx; exact B.row (h i x hi),
   fun i j x y hi hj hij => B.apart (f i) (f j) x y (h i x hi) (h j y hj) (fun e => hij (hf i j e))⟩
theorem Bun.set (B : Bun w base E) {i : Nat} {x : Ent} (h : E[i]? = some x) {y : Ent} (hg : w.grownBy w1 x.v.ownBlock) (ho : w1.ownsRow base y.e 1 y.v y.xs.length y.xs)
    (hat : y.v.ownBlock = x.v.ownBlock ∨ ∃ b, y.v.ownBlock = some b ∧ w.heap.size ≤ b) : Bun w1 base (E.set i y) := by
  have hi : i < E.length := (List.getElem?_eq_some_iff.1 h).1
  have hne : ∀ j z, j ≠ i → E[j]? = some z → z.v.ownBlock = none ∨ z.v.ownBlock ≠ x.v.ownBlock := fun j z hj hz => B.apart j i z x hz h hj
  have hya : ∀ j z, j ≠ i → E[j]? = some z → apartE y z ∧ apartE z y := by
    intro j z hj hz
    have hz1 := hne j z hj hz
    have hz2 := B.apart i j x z h hz (fun e => hj e.symm)
    rcases hat with hat | ⟨b, hb, hle⟩
    · exact ⟨by unfold apartE; rw [hat]; exact hz2, by unfold apartE; rw [hat]; exact hz1⟩
    · have hlt : ∀ k, z.v.ownBlock = some k → k < w.heap.size := fun k hk => own_lt (B.row hz) k hk
      refine ⟨.inr fun e => ?_, ?_⟩
      · rw [hb] at e; have := hlt b e.symm; omega
      · cases hz0 : z.v.ownBlock with
        | none => exact .inl hz0
        | some k => refine .inr fun e => ?_; rw [hb, hz0] at e; have := hlt k hz0; injection e with e; omega
  refine ⟨fun z hz => ?_, fun j k z u hj hk hjk => ?_⟩
  · obtain ⟨j, hj⟩ := List.mem_iff_getElem?.1 hz
    by_cases e : j = i
    · subst e
      rw [List.getElem?_set_self hi] at hj
      cases hj
      exact ho
    · rw [List.getElem?_set_ne (fun h => e h.symm)] at hj
      exact own_other (B.row hj) hg (hne j z e hj)
  · by_cases ej : j = i
    · subst ej
      rw [List.getElem?_set_self hi] at hj
      cases hj
      rw [List.getElem?_set_ne hjk] at hk
      exact (hya k u (fun e => hjk e.symm) hk).1
    · rw [List.getElem?_set_ne (fun h => ej h.symm)] at hj
      by_cases ek : k = i
      · subst ek
        rw [List.getElem?_set_self hi] at hk
        cases hk
        exact (hya j z ej hj).2
      · rw [List.getElem?_set_ne (fun h => ek h.symm)] at hk
        exact B.apart j k z u hj hk hjk
theorem Bun.other (B : Bun w base E) {row : Option Nat} (hg : w.grownBy w1 row) (hne : ∀ (i : Nat) (x : Ent), E[i]? = some x → row ≠ x.v.ownBlock) : Bun w1 base E :=
  ⟨fun x hx => by obtain ⟨i, hi⟩ := List.mem_iff_getElem?.1 hx; exact own_other (B.own x hx) hg (.inr (fun e => hne i x hi e.symm)), B.apart⟩
theorem Bun.push (B : Bun w base E) {y : Ent} (hb : Below w.heap.size w w1) (ho : w1.ownsRow base y.e 1 y.v y.xs.length y.xs) (hnew : ∀ k, y.v.ownBlock = some k → w.heap.size ≤ k) : Bun w1 base (y :: E) := by
  have B1 := B.below hb
  have hz : ∀ z ∈ E, apartE y z ∧ apartE z y := by
    intro z hz
    cases hy : y.v.ownBlock with
    | none => exact ⟨.inl hy, by
        cases h0 : z.v.ownBlock with
        | none => exact .inl h0
        | some k => exact .inr (by rw [hy, h0]; simp)⟩
    | some b =>
      have hle := hnew b hy
      cases h0 : z.v.ownBlock with
      | none => exact ⟨.inr (by rw [hy, h0]; simp), .inl h0⟩
      | some k =>
        have := own_lt (B.own z hz) k h0
        exact ⟨.inr (by rw [hy, h0]; intro e; injection e with e; omega), .inr (by rw [hy, h0]; intro e; injection e with e; omega)⟩
  refine ⟨fun z hz' => ?_, fun i j x u hi hj hij => ?_⟩
  · rcases List.mem_cons.1 hz' with rfl | hz'
    · exact ho
    · exact B1.own z hz'
  · cases i with
    | zero =>
      cases j with
      | zero => exact absurd rfl hij
      | succ j => simp at hi hj; subst hi; exact (hz u (List.mem_of_getElem? hj)).1
    | succ i =>
      cases j with
      | zero => simp at hi hj; subst hj; exact (hz x (List.mem_of_getElem? hi)).2
      | succ j => simp at hi hj; exact B.apart i j x u hi hj (by omega)
theorem Bun.store (B : Bun w base E) {i g n cap : Nat} {e : Nat} {xs : List Value} (h : E[i]? = some ⟨.slice (some ⟨g, 0, none⟩) n cap, e, xs⟩) (hn : xs.length = n) (j : Nat) (u : Value) :
    Bun (w.setCell ⟨g, j, none⟩ u) base (E.set i ⟨.slice (some ⟨g, 0, none⟩) n cap, e, xs.set j u⟩) := by
  have ho := B.row h
  simp only [hn] at ho
  have hs := ho.stored j u
  exact B.set h hs.2 (by simpa [hn] using hs.1) (.inl rfl)
theorem Bun.form (B : Bun w base E) {i : Nat} {x : Ent} (h : E[i]? = some x) : ∃ A c, x.v = .slice A x.xs.length c := own_slice (B.row h)
theorem Bun.form1 (B : Bun w base E) {i : Nat} {A : Option Addr} {n c e : Nat} {xs : List Value} (h : E[i]? = some ⟨.slice A n c, e, xs⟩) (hp : 0 < n) : ∃ g, A = some ⟨g, 0, none⟩ ∧ base ≤ g ∧ g < w.heap.size := by
  have ho := B.row h
  have hl : xs.length = n := by
    obtain ⟨A', c', he⟩ := own_slice ho
    injection he with _ he _
    exact he.symm
  obtain ⟨g, cap, he, hb, hg⟩ := ho.form (by show 0 < xs.length; omega)
  injection he with ha _ _
  exact ⟨g, ha, hb, hg⟩
end
theorem Bun.cell {w : World} {base : Nat} {E : List Ent} (B : Bun w base E) {i g n c e : Nat} {xs : List Value} (h : E[i]? = some ⟨.slice (some ⟨g, 0, none⟩) n c, e, xs⟩) (j : Nat) (hj : j < xs.length) :
    w.cell? ⟨g, j, none⟩ = some xs[j] ∧ w.frozen? ⟨g, j, none⟩ = false := by
  have ho := B.row h
  constructor
  · have := ho.cells (g := g) rfl j xs[j] (List.getElem?_eq_getElem hj)
    rwa [add_plain] at this
  · rcases ho.2 with ⟨h', _⟩ | ⟨g', cap', cur, h', _, hh, _⟩
    · cases h'
    · have : g = g' := by injection h' with h'; injection h' with h'; injection h' with h'
      subst this
      simp [World.frozen?, hh]
theorem Bun.len {w : World} {base : Nat} {E : List Ent} (B : Bun w base E) {i n c e : Nat} {A : Option Addr} {xs : List Value} (h : E[i]? = some ⟨.slice A n c, e, xs⟩) : xs.length = n ∧ n ≤ c ∧ n ≤ 9223372036854775807 := by
  have ho := B.row h
  have hl : xs.length = n := by
    obtain ⟨A', c', he⟩ := own_slice ho
    injection he with _ he _
    exact he.symm
  rcases ho.2 with ⟨h', h0⟩ | ⟨g', cap', cur, h', _, hh, h1, h2, _⟩
  · injection h' with _ hn hc
    subst hn; subst hc
    exact ⟨hl, Nat.le_refl _, by omega⟩
  · injection h' with _ hn hc
    simp only [maxLen] at h2
    exact ⟨hl, by omega, by omega⟩
section
variable {P : Program} {k t e : TypeId} {w w1 : World} {b base : Nat} {S : List Int}
noncomputable def mapD : List Int → DataW Unit
  | [] => .map []
  | x :: S => (mapD S).put (.int .i64 x) (.lit (.bool true))
def MapB (w : World) (P : Program) (k e : TypeId) (base b : Nat) (S : List Int) : Prop := base ≤ b ∧ w.ownsMap P k (plainElem (H := Unit) P e) b S.length (mapD S)
theorem MapB.grown (h : MapB w P k e base b S) {row : Option Nat} (hg : w.grownBy w1 row) (hne : some b ≠ row) : MapB w1 P k e base b S := ⟨h.1, h.2.kept hg hne⟩
theorem MapB.below (h : MapB w P k e base b S) (hb : Below w.heap.size w w1) : MapB w1 P k e base b S := h.grown (grown_of_below hb none) (by simp)
theorem MapB.ne (h : MapB w P k e base b S) {E : List Ent} {base' : Nat} (B : Bun w base' E) {i : Nat} {x : Ent} (hx : E[i]? = some x) : some b ≠ x.v.ownBlock := by
  obtain ⟨es, clock, hb, _⟩ := h.2
  intro he
  obtain ⟨cells, hc⟩ := own_typed (B.row hx) b he.symm
  rw [hb] at hc
  cases hc
theorem MapB.made (w : World) (hb : base ≤ w.heap.size) : MapB (w.alloc (.map #[] 0)) P k e base w.heap.size [] := ⟨hb, World.ownsMap_made _ _ _ _⟩
theorem mapD_isMap : ∀ S, Maps.IsMap (mapD S)
  | [] => ⟨_, rfl⟩
  | x :: S => by obtain ⟨es, h⟩ := mapD_isMap S; exact ⟨_, by rw [mapD, h]; rfl⟩
theorem mapD_at : ∀ (S : List Int) (x : Int), (mapD S).atKey (.int .i64 x) (.lit (.bool false)) = .lit (.bool (decide (x ∈ S)))
  | [], x => by simp [mapD, DataW.atKey]
  | y :: S, x => by
    by_cases c : x = y
    · subst c
      rw [mapD, Maps.atKey_put_same (mapD_isMap S) (by trivial)]
      simp
    · rw [mapD, Maps.atKey_put_other (by intro h; injection h with _ h; exact c h), mapD_at S x]
      simp [c]
theorem plainElem_bool_inv (he : P.underlying e = some .bool) {v : Value} {z : DataW Unit × List MemPlace} (h : plainElem P e v = some z) : ∃ x, v = .bool x ∧ z = (.lit (.bool x), []) := by
  unfold plainElem at h
  rw [he] at h
  cases v <;> simp at h
  exact ⟨_, rfl, h.symm⟩
theorem MapB.look (h : MapB w P k e base b S) (hk : P.underlying k = some (.int .i64)) (ht : P.underlying t = some (.map k e)) (he : P.underlying e = some .bool) (hz : (zeroValue e).run P w = .ok (.bool false) w) (x : Int) (hw : (Lit.int .i64 x).wf = true) :
    (Instr.lookup t (.map (some b)) (.int .i64 x) false).run P w = .ok (.bool (decide (x ∈ S))) w := by
  obtain ⟨v, ps, hr, hv⟩ := h.2.lookup (Maps.int_keyed hk) ht hz (plainElem_bool he false) (Maps.keyOf_int_mk hk hw)
  obtain ⟨y, rfl, hy⟩ := plainElem_bool_inv he hv
  rw [mapD_at] at hy
  simp only [Prod.mk.injEq, DataW.lit.injEq, Lit.bool.injEq] at hy
  rw [hr, hy.1]
theorem MapB.update {ops : Array Oper} {rest : List Oper} {o : Oper} {a : Act} {Q : Exit → Act → World → Prop} (h : MapB w P k e base b S) (hg : o.guard = none) (m x v : Operand) (hop : o.op = Op.mapUpdate t m x v) (hk : P.underlying k = some (.int .i64)) (ht : P.underlying t = some (.map k e)) (he : P.underlying e = some .bool)
    (hm : a.eval m = .map (some b)) (key : Int) (hx : a.eval x = .int .i64 key) (hv : a.eval v = .bool true) (hw : (Lit.int .i64 key).wf = true) (hn : S.length < 1000000)
    (hK : ∀ w', MapB w' P k e base b (key :: S) → w.grownBy w' (some b) → wpList P ops Q rest (a.put o.dst undef) w') : wpList P ops Q (o :: rest) a w :=
  wpList_mapUpdate_own w hg m x v t hop k e (Maps.int_keyed hk) ht (plainElem (H := Unit) P e) b S.length (mapD S) hm h.2 (by unfold maxLen; omega) _ _ (.int .i64 key) hx hv (Maps.keyOf_int_mk hk hw) _ [] (plainElem_bool he true) (fun w' h1 h2 => hK w' ⟨h.1, h1⟩ h2)
end
section
variable {w w1 : World} {base : Nat} {E : List Ent}
theorem nums_set (k : IntKind) (xs : List Int) (j : Nat) (x : Int) : (nums k xs).set j (.int k x) = nums k (xs.set j x) := by simp [nums, List.map_set]
theorem nums_take (k : IntKind) (xs : List Int) (m : Nat) : (nums k xs).take m = nums k (xs.take m) := by simp [nums, List.map_take]
theorem Bun.rown (B : Bun w base E) {i : Nat} {v : Value} {e : Nat} {k : IntKind} {xs : List Int} (h : E[i]? = some ⟨v, e, nums k xs⟩) : w.ownsRow base e 1 v xs.length (nums k xs) := by
  have := B.row h
  simpa [nums_length] using this
theorem Bun.put (B : Bun w base E) {i g n cap e : Nat} {k : IntKind} {xs : List Int} (h : E[i]? = some ⟨.slice (some ⟨g, 0, none⟩) n cap, e, nums k xs⟩) (j : Nat) (x : Int) :
    Bun (w.setCell ⟨g, j, none⟩ (.int k x)) base (E.set i ⟨.slice (some ⟨g, 0, none⟩) n cap, e, nums k (xs.set j x)⟩) ∧ w.grownBy (w.setCell ⟨g, j, none⟩ (.int k x)) (some g) ∧ base ≤ g := by
  have hl := (B.len h).1
  have ho := B.row h
  simp only [hl] at ho
  have hs := ho.stored j (.int k x)
  refine ⟨?_, hs.2, own_base ho g rfl⟩
  rw [← nums_set]
  exact B.store h hl j _
theorem Bun.neBlk (B : Bun w base E) {i : Nat} {x : Ent} (h : E[i]? = some x) {g t : Nat} {cs : Array Value} (hb : w.heap[g]? = some (.cells cs t (0, 0))) (ht : x.e ≠ t) : some g ≠ x.v.ownBlock := by
  intro he
  obtain ⟨cells, hc⟩ := own_typed (B.row h) g he.symm
  rw [hb] at hc
  injection hc with hc
  injection hc with _ hc
  exact ht hc.symm
theorem Bun.getN (B : Bun w base E) {i g n c e : Nat} {xs : List Int} (h : E[i]? = some ⟨.slice (some ⟨g, 0, none⟩) n c, e, nums .i64 xs⟩) (j : Nat) (hj : j < xs.length) :
    w.cell? ⟨g, j, none⟩ = some (.int .i64 (xs.getD j 0)) ∧ w.frozen? ⟨g, j, none⟩ = false := by
  obtain ⟨h1, h2⟩ := B.cell h j (by rw [nums_length]; exact hj)
  refine ⟨?_, h2⟩
  rw [h1]
  simp [nums, List.getD_eq_getElem?_getD, hj]
theorem Bun.shorter (B : Bun w base E) {i n c e m : Nat} {A : Option Addr} {xs : List Value} (h : E[i]? = some ⟨.slice A n c, e, xs⟩) (hm : m ≤ n) : Bun w base (E.set i ⟨.slice A m c, e, xs.take m⟩) := by
  have hl := (B.len h).1
  have ho := B.row h
  simp only [hl] at ho
  have hi : i < E.length := (List.getElem?_eq_some_iff.1 h).1
  have hb : (Value.slice A m c).ownBlock = (Value.slice A n c).ownBlock := by cases A <;> rfl
  have hlt : (xs.take m).length = m := by rw [List.length_take]; omega
  have hown : w.ownsRow base e 1 (.slice A m c) (xs.take m).length (xs.take m) := by
    rw [hlt]
    have := own_take ho hm
    simpa using this
  exact B.set h (grown_of_below (Below.refl _ _) _) hown (.inl hb)
end
def innE (e : Nat) (inn : List Value) (xss : List (List Int)) : List Ent := List.zipWith (fun v xs => ⟨v, e, nums .i64 xs⟩) inn xss
theorem innE_get {e : Nat} {inn : List Value} {xss : List (List Int)} (h : inn.length = xss.length) (j : Nat) (hj : j < xss.length) : (innE e inn xss)[j]? = some ⟨inn.getD j (.slice none 0 0), e, nums .i64 (xss.getD j [])⟩ := by
  unfold innE
  simp [List.getElem?_zipWith, List.getD_eq_getElem?_getD, show j < inn.length by omega, hj]
theorem innE_set {e : Nat} {inn : List Value} {xss : List (List Int)} (h : inn.length = xss.length) (j : Nat) (v : Value) (xs : List Int) : (innE e inn xss).set j ⟨v, e, nums .i64 xs⟩ = innE e (inn.set j v) (xss.set j xs) := by
  apply List.ext_getElem?
  intro n
  unfold innE
  by_cases hn : n = j
  · subst hn
    by_cases hl : n < inn.length
    · rw [List.getElem?_set_self (by simp; omega)]
      simp [List.getElem?_zipWith, List.getElem?_set_self hl, List.getElem?_set_self (show n < xss.length by omega)]
    · simp [List.getElem?_zipWith, List.set_eq_of_length_le (show inn.length ≤ n by omega), List.set_eq_of_length_le (show (List.zipWith (fun v xs => (⟨v, e, nums .i64 xs⟩ : Ent)) inn xss).length ≤ n by simp; omega), show inn.length ≤ n by omega]
  · rw [List.getElem?_set_ne (fun h => hn h.symm)]
    simp [List.getElem?_zipWith, List.getElem?_set_ne (fun h => hn h.symm)]
theorem innE_snoc {e : Nat} {inn : List Value} {xss : List (List Int)} (h : inn.length = xss.length) (v : Value) (xs : List Int) : innE e inn xss ++ [⟨v, e, nums .i64 xs⟩] = innE e (inn ++ [v]) (xss ++ [xs]) := by
  unfold innE
  rw [List.zipWith_append h]
  rfl
theorem innE_take {e : Nat} {inn : List Value} {xss : List (List Int)} (m : Nat) : (innE e inn xss).take m = innE e (inn.take m) (xss.take m) := by
  unfold innE
  rw [List.take_zipWith]
section
variable {w w1 : World} {base : Nat} {E F : List Ent}
theorem Bun.snocNil (B : Bun w base E) (e : Nat) : Bun w base (E ++ [⟨.slice none 0 0, e, []⟩]) := by
  refine ⟨fun x hx => ?_, fun i j x y hi hj hij => ?_⟩
  · rcases List.mem_append.1 hx with hx | hx
    · exact B.own x hx
    · rw [List.mem_singleton.1 hx]
      exact own_nil _ _ _ _
  · rcases Nat.lt_or_ge i E.length with h1 | h1
    · rw [List.getElem?_append_left h1] at hi
      rcases Nat.lt_or_ge j E.length with h2 | h2
      · rw [List.getElem?_append_left h2] at hj
        exact B.apart i j x y hi hj hij
      · rw [List.getElem?_append_right h2] at hj
        obtain ⟨_, rfl⟩ : j - E.length = 0 ∧ y = ⟨.slice none 0 0, e, []⟩ := by
          cases h3 : j - E.length with
          | zero => rw [h3] at hj; simp at hj; exact ⟨rfl, hj.symm⟩
          | succ m => rw [h3] at hj; simp at hj
        by_cases hx : x.v.ownBlock = none
        · exact .inl hx
        · exact .inr hx
    · rw [List.getElem?_append_right h1] at hi
      cases h3 : i - E.length with
      | zero => rw [h3] at hi; simp at hi; subst hi; exact .inl rfl
      | succ m => rw [h3] at hi; simp at hi
theorem Bun.init (B : Bun w base (E ++ F)) (m : Nat) : Bun w base (E ++ F.take m) :=
  B.sub id (fun _ _ h => h) (fun i x hi => by
    rcases Nat.lt_or_ge i E.length with h1 | h1
    · rw [List.getElem?_append_left h1] at hi
      show (E ++ F)[i]? = _
      rw [List.getElem?_append_left h1]; exact hi
    · rw [List.getElem?_append_right h1] at hi
      show (E ++ F)[i]? = _
      rw [List.getElem?_append_right h1]
      rw [List.getElem?_take] at hi
      split at hi
      · exact hi
      · cases hi)
end
theorem box5 (W : World) (t : Nat) (z0 z1 z2 z3 z4 v0 v1 v2 v3 v4 : Value) :
    Below W.heap.size W ((((((W.alloc (.cells #[z0, z1, z2, z3, z4] t)).setCell ⟨W.heap.size, 0, none⟩ v0).setCell ⟨W.heap.size, 1, none⟩ v1).setCell ⟨W.heap.size, 2, none⟩ v2).setCell ⟨W.heap.size, 3, none⟩ v3).setCell ⟨W.heap.size, 4, none⟩ v4) ∧
      ((((((W.alloc (.cells #[z0, z1, z2, z3, z4] t)).setCell ⟨W.heap.size, 0, none⟩ v0).setCell ⟨W.heap.size, 1, none⟩ v1).setCell ⟨W.heap.size, 2, none⟩ v2).setCell ⟨W.heap.size, 3, none⟩ v3).setCell ⟨W.heap.size, 4, none⟩ v4).heap[W.heap.size]? = some (.cells #[v0, v1, v2, v3, v4] t (0, 0)) := by
  have hB := below_alloc (Below.refl W.heap.size W) (.cells #[z0, z1, z2, z3, z4] t)
  exact ⟨below_set (below_set (below_set (below_set (below_set hB (Nat.le_refl _)) (Nat.le_refl _)) (Nat.le_refl _)) (Nat.le_refl _)) (Nat.le_refl _),
    blk_put (blk_put (blk_put (blk_put (blk_put (blk_new W _) 0 v0 rfl) 1 v1 rfl) 2 v2 rfl) 3 v3 rfl) 4 v4 rfl⟩
theorem bunst {W W' : World} {base : Nat} {E : List Ent} (h : Aside0 (Bun W base E)) [b : Behind W W'] : Bun W' base E :=
  b.go (fun X => Bun X base E) (fun _ o h => h.alloc o) (fun _ h => h.drew) (fun _ n h => h.drewN n) h.out
theorem mapst {P : Program} {k e : TypeId} {base b : Nat} {S : List Int} {W W' : World} (h : Aside0 (MapB W P k e base b S)) [c : Behind W W'] : MapB W' P k e base b S :=
  c.go (fun X => MapB X P k e base b S) (fun _ o h => h.below (below_alloc (Below.refl _ _) o)) (fun _ h => h.below (below_drew1 (Below.refl _ _))) (fun _ n h => h.below (pw_below_drewN (Below.refl _ _) n)) h.out
end Go.Proofs.YtfpcfaapoeeipaaW.PrintMore
