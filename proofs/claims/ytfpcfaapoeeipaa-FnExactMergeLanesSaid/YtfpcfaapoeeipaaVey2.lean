/- Lemmas of this session that the contracts and the row use. -/
import Derived.Test.YtfpcfaapoeeipaaVew0
import Derived.SizedLaws
import Derived.ChangeSlices
import Derived.Deep.Slices
namespace Go.Proofs.YtfpcfaapoeeipaaW.PrintWords
open Go.ChangeShapes Go.WideShapes Go.Deep
theorem list_of_each {α : Type} (p : Nat → α → Prop) : ∀ n : Nat, (∀ i, i < n → ∃ v, p i v) → ∃ xs : List α, xs.length = n ∧ ∀ i v, xs[i]? = some v → p i v
  | 0, _ => ⟨[], rfl, fun i v h => by simp at h⟩
  | n + 1, h => by
    obtain ⟨xs, h1, h2⟩ := list_of_each p n (fun i hi => h i (by omega))
    obtain ⟨v, hv⟩ := h n (by omega)
    refine ⟨xs ++ [v], by simp [h1], fun i u hu => ?_⟩
    by_cases hi : i < xs.length
    · rw [List.getElem?_append_left hi] at hu; exact h2 i u hu
    · rw [List.getElem?_append_right (by omega)] at hu
      by_cases he : i = n
      · subst he; simp [h1] at hu; subst hu; exact hv
      · rw [List.getElem?_eq_none (by simp; omega)] at hu; cases hu
def Opens (P : Program) (t : TypeId) {α : Type} (k : Kd α) (ok : α → Prop) : Prop :=
  ∀ {H : Type} {enc : TypeId × Value → H} {W : World} {base : Nat} {spare : Nat → Bool} {held : Bool} {fuel : Nat} {cs : List Value} {x : DataW H × List MemPlace}, DataW.trod enc P W base spare held fuel t cs = some x → ∃ v, k.K W v cs ∧ ok v
theorem Opens.int {P : Program} {t : TypeId} {ik : IntKind} (ht : P.underlying t = some (.int ik)) : Opens P t (Kd.int ik) (fun x => (Lit.int ik x).wf = true) := by
  intro H enc W base spare held fuel cs x h
  obtain ⟨n, rfl, _, hw⟩ := DataW.trod_int ht h
  exact ⟨n, rfl, hw⟩
theorem Opens.slice {P : Program} {t e : TypeId} {α : Type} {k : Kd α} {ok : α → Prop} (ht : P.underlying t = some (.slice e)) (hk : Opens P e k ok) (hs : P.cellsOf e = k.sz) (q : Nat) : Opens P t (Kd.slice q k) (fun xs => xs.length ≤ maxLen ∧ ∀ x, x ∈ xs → ok x) := by
  intro H enc W base spare held fuel cs x h
  rcases open_slice ht h with ⟨rfl, _⟩ | ⟨a, len, cap, m, n, D, Pl, rfl, hb, hl, hm, hmm, _, hx⟩
  · exact ⟨[], ⟨none, 0, rfl, Nat.le_refl _, rfl, by simp, fun h => absurd h (by simp)⟩, by simp, by simp⟩
  · have hlm : len ≤ m := by rw [hmm]; split <;> omega
    obtain ⟨xs, h1, h2⟩ := list_of_each (fun i (v : α) => (∃ cs', W.cells? base (a.add (i * k.sz)) k.sz = some cs' ∧ k.K W v cs') ∧ ok v) len (fun i hi => by
      obtain ⟨cs', g1, g2⟩ := hx i (by omega)
      obtain ⟨v, hv, ho⟩ := hk g2
      rw [hs] at g1
      exact ⟨v, ⟨cs', g1, hv⟩, ho⟩)
    subst h1
    refine ⟨xs, ⟨some a, cap, rfl, hl, rfl, ?_, fun _ => ⟨a, rfl, fun j p hp => ?_⟩⟩, by omega, fun v hv => ?_⟩
    · have : maxLen = 9223372036854775807 := rfl
      omega
    · obtain ⟨⟨cs', g1, g2⟩, _⟩ := h2 j p hp
      obtain ⟨_, hlen, hcell⟩ := World.cells?_some g1
      refine ⟨cs', hlen, g2, fun i u hu => ?_⟩
      have hi : i < k.sz := by
        rw [← hlen]
        rcases Nat.lt_or_ge i cs'.length with h | h
        · exact h
        · rw [List.getElem?_eq_none h] at hu; cases hu
      have := hcell i hi
      rw [add_add] at this
      rw [this]; exact hu
    · obtain ⟨i, hi⟩ := List.mem_iff_getElem?.1 hv
      exact (h2 i v hi).2
theorem Opens.row {P : Program} {t e : TypeId} {α : Type} {k : Kd α} {ok : α → Prop} (ht : P.underlying t = some (.slice e)) (hk : Opens P e k ok) (hs : P.cellsOf e = k.sz)
    {H : Type} {enc : TypeId × Value → H} {W : World} {base : Nat} {spare : Nat → Bool} {held : Bool} {a : Option Addr} {len cap : Nat} {d : DataW H} {ps : List MemPlace} (h : DataW.Trod enc P W base spare held t (.slice a len cap) d ps) :
    ∃ l : List α, len = l.length ∧ l.length ≤ cap ∧ Kd.C k W a l.length l ∧ l.length ≤ maxLen ∧ ∀ x, x ∈ l → ok x := by
  obtain ⟨fuel, hf⟩ := h
  obtain ⟨v, ⟨A, c, hcs, hl, hC⟩, ho⟩ := Opens.slice ht hk hs 0 hf
  simp [Value.cells] at hcs
  obtain ⟨rfl, rfl, rfl⟩ := hcs
  exact ⟨v, rfl, hl, hC, ho⟩
theorem sized_any {H : Type} {enc : TypeId × Value → H} {P : Program} {W : World} {base : Nat} {spare : Nat → Bool} {held : Bool} {t e : TypeId} {a : Option Addr} {len cap : Nat} {d : DataW H} {ps : List MemPlace} {ts : List TypeId} {ds : List (DataW H)} {j : Nat}
    (hsz : (DataW.weightsEach P ts ds).all (· ≤ reachBytes) = true) (ht : ts[j]? = some t) (hd : ds[j]? = some d) (hu : P.underlying t = some (.slice e)) {B : Nat} (hB : P.bytesOf e = B)
    (h : DataW.Trod enc P W base spare held t (.slice a len cap) d ps) : len * B ≤ 140737488351232 := by
  obtain ⟨fuel, hf⟩ := h
  rcases open_slice hu hf with ⟨hcs, _⟩ | ⟨x, l, c, m, n, D, Pl, hcs, _, hl, _, hm, hx, _⟩
  · simp [Value.cells] at hcs
    obtain ⟨rfl, rfl, rfl⟩ := hcs
    simp
  · simp [Value.cells] at hcs
    obtain ⟨rfl, rfl, rfl⟩ := hcs
    obtain ⟨hx, _⟩ := Prod.mk.inj hx
    subst hx
    have z := sized_slice hsz ht hd hu
    rw [hB] at z
    simp only [List.length_map, List.length_range] at z
    exact Nat.le_trans (Nat.mul_le_mul_right _ (by omega)) z
end Go.Proofs.YtfpcfaapoeeipaaW.PrintWords
