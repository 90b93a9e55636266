/- Lemmas of this session that the contracts and the row use. -/
import Derived.Test.YtfpcfaapoeeipaaVew0
import Derived.Shelf.Abstract
namespace Go.Proofs.YtfpcfaapoeeipaaW.PrintMore
open Go.RowKit Go.Proofs.YtfpcfaapoeeipaaW.PrintWords
theorem ifp {p : Prop} [Decidable p] {α : Type} {a : Option α} {r : α} (h : (if p then a else none) = some r) : p ∧ a = some r := by
  by_cases c : p
  · rw [if_pos c] at h; exact ⟨c, h⟩
  · rw [if_neg c] at h; cases h
theorem bsm {α β : Type} {a : α} {f : α → Option β} {r : Option β} (h : (some a).bind f = r) : f a = r := h
class Behind (W W' : World) : Prop where
  go : ∀ R : World → Prop, (∀ X o, R X → R (X.alloc o)) → (∀ X, R X → R X.drew) → (∀ X n, R X → R (X.drewN n)) → R W → R W'
instance Behind.refl (W : World) : Behind W W := ⟨fun _ _ _ _ h => h⟩
instance Behind.alloc (W W' : World) (o : Obj) [b : Behind W W'] : Behind W (W'.alloc o) := ⟨fun R a d n h => a _ _ (b.go R a d n h)⟩
instance Behind.drewN (W W' : World) (k : Nat) [b : Behind W W'] : Behind W (W'.drewN k) := ⟨fun R a d n h => n _ _ (b.go R a d n h)⟩
theorem bst {w W W' : World} (h : Aside0 (Below w.heap.size w W)) [b : Behind W W'] : Below w.heap.size w W' :=
  b.go (fun X => Below w.heap.size w X) (fun _ o h => below_alloc h o) (fun _ h => below_drew1 h) (fun _ n h => pw_below_drewN h n) h.out
theorem rst {α : Type} {d : Kd α} {e base : Nat} {ok : Nat → Prop} {v : Value} {xs : List α} {W W' : World} (h : Kd.R d e W base ok v xs) [b : Behind W W'] : Kd.R d e W' base ok v xs :=
  b.go (fun X => Kd.R d e X base ok v xs) (fun _ o h => Kd.R_alloc h o) (fun _ h => Kd.R_drew h) (fun _ n h => Kd.R_drewN h n) h
def idxO {α : Type} (q : α → Option Bool) : List α → Int → Option Int
  | [], _ => some (-1)
  | x :: xs, i => (q x).bind fun b => if b = true then some i else idxO q xs (i + 1)
def allO {α : Type} (p : α → Option Bool) : List α → Option Bool
  | [] => some true
  | x :: xs => (p x).bind fun b => if b = true then allO p xs else some false
theorem idx_of_all {α : Type} (p : α → Option Bool) : ∀ (l : List α) (i : Int) (b : Bool), 0 ≤ i → allO p l = some b → ∃ r, idxO (fun x => (p x).bind fun b => some (!b)) l i = some r ∧ decide (0 ≤ r) = !b
  | [], i, b, _, h => by simp [allO] at h; subst h; exact ⟨-1, rfl, rfl⟩
  | x :: xs, i, b, hi, h => by
    simp only [allO] at h
    obtain ⟨c, hc, h⟩ := Option.bind_eq_some_iff.mp h
    cases c with
    | true =>
      obtain ⟨r, hr, hd⟩ := idx_of_all p xs (i + 1) b (by omega) (by simpa using h)
      exact ⟨r, by simp [idxO, hc, hr], hd⟩
    | false =>
      simp at h; subst h
      exact ⟨i, by simp [idxO, hc], by simp [hi]⟩
theorem am {p : Prop} (h : p) : Aside0 p := ⟨h⟩
theorem od {p : Prop} [Decidable p] (h : decide p = true) : p := of_decide_eq_true h
theorem bc {w W : World} {a : Addr} {v : Value} (h : Aside0 (Below w.heap.size w W)) (hc : w.cell? a = some v) : W.cell? a = some v := (h.out.cell (World.block_lt_of_cell? w _ hc)).trans hc
end Go.Proofs.YtfpcfaapoeeipaaW.PrintMore
