/- Lemmas of this session that the contracts and the row use. -/
import Derived.Test.YtfpcfaapoeeipaaVcw0
import Derived.Shelf.Abstract
namespace Go.Proofs.YtfpcfaapoeeipaaW.PrintMore
open Go.RowKit Go.Proofs.YtfpcfaapoeeipaaW.PrintWords
theorem ifp {p : Prop} [Decidable p] {α : Type} {a : Option α} {r : α} (h : (if p then a else none) = some r) : p ∧ a = some r := by
  by_cases c : p
  · rw [if_pos c] at h; exact ⟨c, h⟩
  · rw [if_neg c] at h; cases h
theorem ifq {p : Prop} [Decidable p] {α : Type} {a : Option α} {r : α} (h : (if p then none else a) = some r) : ¬ p ∧ a = some r := by
  by_cases c : p
  · rw [if_pos c] at h; cases h
  · rw [if_neg c] at h; exact ⟨c, h⟩
theorem bsm {α β : Type} {a : α} {f : α → Option β} {r : Option β} (h : (some a).bind f = r) : f a = r := h
class Behind (W W' : World) : Prop where
  go : ∀ R : World → Prop, (∀ X o, R X → R (X.alloc o)) → (∀ X, R X → R X.drew) → (∀ X n, R X → R (X.drewN n)) → R W → R W'
instance Behind.refl (W : World) : Behind W W := ⟨fun _ _ _ _ h => h⟩
instance Behind.alloc (W W' : World) (o : Obj) [b : Behind W W'] : Behind W (W'.alloc o) := ⟨fun R a d n h => a _ _ (b.go R a d n h)⟩
instance Behind.drewN (W W' : World) (k : Nat) [b : Behind W W'] : Behind W (W'.drewN k) := ⟨fun R a d n h => n _ _ (b.go R a d n h)⟩
theorem bst {w W W' : World} (h : Aside0 (Below w.heap.size w W)) [b : Behind W W'] : Below w.heap.size w W' :=
  b.go (fun X => Below w.heap.size w X) (fun _ o h => below_alloc h o) (fun _ h => below_drew1 h) (fun _ n h => pw_below_drewN h n) h.out
theorem rst {α : Type} {d : Kd α} {e base : Nat} {ok : Nat → Prop} {v : Value} {xs : List α} {W W' : World} (h : Kd.R d e W base ok v xs) [b : Behind W W'] : Kd.R d e W' base ok v xs :=
  b.go (fun X => Kd.R d e X base ok v xs) (fun _ o h => Kd.R_alloc h o) (fun _ h => Kd.R_drew h) (fun _ n h => Kd.R_drewN h n) h
theorem sst {α : Type} {d : Kd α} {e base : Nat} {ok : Nat → Prop} {v : Value} {xs : List α} {W W' : World} (h : Kd.S d e W base ok v xs) [b : Behind W W'] : Kd.S d e W' base ok v xs :=
  b.go (fun X => Kd.S d e X base ok v xs) (fun _ o h => Kd.S_alloc h o) (fun _ h => Kd.S_drew h) (fun _ n h => Kd.S_drewN h n) h
def idxO {α : Type} (q : α → Option Bool) : List α → Int → Option Int
  | [], _ => some (-1)
  | x :: xs, i => (q x).bind fun b => if b = true then some i else idxO q xs (i + 1)
def allO {α : Type} (p : α → Option Bool) : List α → Option Bool
  | [] => some true
  | x :: xs => (p x).bind fun b => if b = true then allO p xs else some false
theorem idx_of_all {α : Type} (p : α → Option Bool) : ∀ (l : List α) (i : Int) (b : Bool), 0 ≤ i → allO p l = some b → ∃ r, idxO (fun x => (p x).bind fun b => some (!b)) l i = some r ∧ decide (0 ≤ r) = !b
  | [], i, b, _, h => by simp [allO] at h; subst h; exact ⟨-1, rfl, rfl⟩
  | x :: xs, i, b, hi, h => by
    simp only [allO] at h
    obtain ⟨c, hc, h⟩ := Option.bind_eq_some_iff.mp h
    cases c with
    | true =>
      obtain ⟨r, hr, hd⟩ := idx_of_all p xs (i + 1) b (by omega) (by simpa using h)
      exact ⟨r, by simp [idxO, hc, hr], hd⟩
    | false =>
      simp at h; subst h
      exact ⟨i, by simp [idxO, hc], by simp [hi]⟩
theorem ob_eq (A : Option Addr) (n c : Nat) : (Value.slice A n c).ownBlock = A.map (·.block) := by cases A <;> rfl
theorem am {p : Prop} (h : p) : Aside0 p := ⟨h⟩
theorem od {p : Prop} [Decidable p] (h : decide p = true) : p := of_decide_eq_true h
theorem bc {w W : World} {a : Addr} {v : Value} (h : Aside0 (Below w.heap.size w W)) (hc : w.cell? a = some v) : W.cell? a = some v := (h.out.cell (World.block_lt_of_cell? w _ hc)).trans hc
theorem bx5 {w : World} {g t : Nat} {a b c d e : Value} (h : w.heap[g]? = some (.cells #[a, b, c, d, e] t (0, 0))) :
    w.cell? ⟨g, 0, none⟩ = some a ∧ w.cell? ⟨g, 1, none⟩ = some b ∧ w.cell? ⟨g, 2, none⟩ = some c ∧ w.cell? ⟨g, 3, none⟩ = some d ∧ w.cell? ⟨g, 4, none⟩ = some e ∧
      w.frozen? ⟨g, 0, none⟩ = false ∧ w.frozen? ⟨g, 1, none⟩ = false ∧ w.frozen? ⟨g, 2, none⟩ = false ∧ w.frozen? ⟨g, 3, none⟩ = false ∧ w.frozen? ⟨g, 4, none⟩ = false :=
  ⟨(blk_cell h 0).trans rfl, (blk_cell h 1).trans rfl, (blk_cell h 2).trans rfl, (blk_cell h 3).trans rfl, (blk_cell h 4).trans rfl, blk_frozen h 0, blk_frozen h 1, blk_frozen h 2, blk_frozen h 3, blk_frozen h 4⟩
section
variable {α : Type} {k : Kd α} {e base : Nat} {ok : Nat → Prop} {v : Value} {xs : List α} {w0 w W : World} {g t : Nat} {cells : Array Value} {a b c p q : Int}
theorem R_b5 (hw : W = (((((w.setCell ⟨g, 0, none⟩ (.int .i64 a)).setCell ⟨g, 1, none⟩ (.int .i64 b)).setCell ⟨g, 2, none⟩ (.int .i64 c)).setCell ⟨g, 3, none⟩ (.int .i64 p)).setCell ⟨g, 4, none⟩ (.int .i64 q))) (h : k.R e w base ok v xs) (hb : w.heap[g]? = some (.cells cells t (0, 0))) (ht : ∀ z, z ∈ e :: k.E → z ≠ t) : k.R e W base ok v xs := by
  subst hw
  exact Kd.R_mono (Kd.R_far (p := ⟨g, 4, none⟩) (Kd.R_far (p := ⟨g, 3, none⟩) (Kd.R_far (p := ⟨g, 2, none⟩) (Kd.R_far (p := ⟨g, 1, none⟩) (Kd.R_far (p := ⟨g, 0, none⟩) (Kd.R_types h hb ht) (fun _ hk => hk.2) _) (fun _ hk => hk.2) _) (fun _ hk => hk.2) _) (fun _ hk => hk.2) _) (fun _ hk => hk.2) _) (fun _ hk => hk.1)
theorem blk_b5 {z0 z1 z2 z3 z4 : Value} (hw : W = (((((w.setCell ⟨g, 0, none⟩ (.int .i64 a)).setCell ⟨g, 1, none⟩ (.int .i64 b)).setCell ⟨g, 2, none⟩ (.int .i64 c)).setCell ⟨g, 3, none⟩ (.int .i64 p)).setCell ⟨g, 4, none⟩ (.int .i64 q))) (hb : w.heap[g]? = some (.cells #[z0, z1, z2, z3, z4] t (0, 0))) :
    W.heap[g]? = some (.cells #[.int .i64 a, .int .i64 b, .int .i64 c, .int .i64 p, .int .i64 q] t (0, 0)) := by
  subst hw
  exact (blk_set (blk_set (blk_set (blk_set (blk_set hb 0 _) 1 _) 2 _) 3 _) 4 _).trans rfl
theorem below_b5 (hw : W = (((((w.setCell ⟨g, 0, none⟩ (.int .i64 a)).setCell ⟨g, 1, none⟩ (.int .i64 b)).setCell ⟨g, 2, none⟩ (.int .i64 c)).setCell ⟨g, 3, none⟩ (.int .i64 p)).setCell ⟨g, 4, none⟩ (.int .i64 q))) (h : Below w0.heap.size w0 w) (hg : w0.heap.size ≤ g) : Below w0.heap.size w0 W := by
  subst hw
  exact below_set (below_set (below_set (below_set (below_set h hg) hg) hg) hg) hg
end
end Go.Proofs.YtfpcfaapoeeipaaW.PrintMore
