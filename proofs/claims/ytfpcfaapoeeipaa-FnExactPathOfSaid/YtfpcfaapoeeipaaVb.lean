/- The law FnExactPathOf of the given program, for all arguments: it returns true, and its arguments read as before. -/
import Derived.Test.YtfpcfaapoeeipaaRows
import Derived.Test.YtfpcfaapoeeipaaVbq0
import Derived.Test.YtfpcfaapoeeipaaVby2
import Derived.Test.YtfpcfaapoeeipaaRows
import Derived.WalkKit
import Derived.ProofKit
import Derived.OpenShut
import Derived.ShutString
import Derived.ChangeOld
import Derived.Below
import Derived.SizedLaws
namespace Go.Proofs.Ytfpcfaapoeeipaa.fnExactPathOf
open Go.ChangeShapes Go.WideShapes Go.ChangeAt Go.RowKit Go.Proofs.YtfpcfaapoeeipaaW.PrintWords Go.Proofs.Ytfpcfaapoeeipaa.P
open Go.ChangeMaps (open_string shut_string)
set_option linter.unusedVariables false
theorem own : ownKnob Try.prog.godebug = none := by kernel_rfl
theorem laidOut : laidOutB Try.prog = true := by kernel_rfl
set_option maxRecDepth 100000 in
theorem opens77 : Opens Try.prog 77 k77 (fun _ => True) := by
  intro H enc W base spare held fuel cs x h
  obtain ⟨xs, n, rfl, _, hlen, hxl, hf⟩ := DataW.trod_struct Try.underlying77 h
  have hc : Try.prog.cellsOf 77 = 5 := by kernel_rfl
  have c2 : Try.prog.cellsOf 2 = 1 := by kernel_rfl
  rw [hc] at hlen
  match cs, hlen, xs, hxl with
  | [v0, v1, v2, v3, v4], _, [y0, y1, y2, y3, y4], _ =>
    have g0 := hf 0 _ rfl
    simp [c2] at g0
    obtain ⟨n0, e0, _, _⟩ := DataW.trod_int Try.underlying2 g0
    injection e0 with e0
    subst e0
    have g1 := hf 1 _ rfl
    simp [c2] at g1
    obtain ⟨n1, e1, _, _⟩ := DataW.trod_int Try.underlying2 g1
    injection e1 with e1
    subst e1
    have g2 := hf 2 _ rfl
    simp [c2] at g2
    obtain ⟨n2, e2, _, _⟩ := DataW.trod_int Try.underlying2 g2
    injection e2 with e2
    subst e2
    have g3 := hf 3 _ rfl
    simp [c2] at g3
    obtain ⟨n3, e3, _, _⟩ := DataW.trod_int Try.underlying2 g3
    injection e3 with e3
    subst e3
    have g4 := hf 4 _ rfl
    simp [c2] at g4
    obtain ⟨n4, e4, _, _⟩ := DataW.trod_int Try.underlying2 g4
    injection e4 with e4
    subst e4
    exact ⟨⟨n0, n1, n2, n3, n4⟩, ⟨[.int .i64 n0], _, rfl, rfl, [.int .i64 n1], _, rfl, rfl, [.int .i64 n2], _, rfl, rfl, [.int .i64 n3], [.int .i64 n4], rfl, rfl, rfl⟩, trivial⟩
set_option maxRecDepth 100000 in
theorem lifted (os : Os) (started : os.Started) (H : Type) (enc : TypeId × Value → H) :
    ReturnsInHanded {} Try.checked os 7 .any (Rows.fnExactPathOfSpec.pre6 enc Try.prog Try.f7 Rows.fnExactPathOfRow.domain false) (Rows.fnExactPathOfSpec.post enc Try.prog Try.f7 false true false false) := by
  refine returnsInHanded_of_change_sized (C := Try.checked) own started (by kernel_rfl) Try.func7
    (ChangeSpec.witness6 (enc := enc) (C := Try.checked) false ⟨#[], #[.int .i64 0, .slice none 0 0, .slice none 0 0], []⟩ 8 (by kernel_rfl) (by kernel_rfl) (by kernel_rfl) (by kernel_rfl)) ?_
  intro W base args ds gs before hval0 hW hcnd hsz0 _
  have hsz : (DataW.weightsEach Try.prog (Try.f7.params.toList ++ Rows.fnExactPathOfSpec.plain.varTypes Try.prog) (ds ++ gs)).all (· ≤ reachBytes) = true := hsz0
  have hval : ∀ (j : Nat) t v, Try.f7.params[j]? = some t → args[j]? = some v → Value.okWide Try.prog W .any base t v := hval0
  have hW' := hW
  obtain ⟨p, q, hA0, hV, rfl, hfz, hnd⟩ := hW
  have hA : DataW.TrodAll enc Try.prog W 0 (fun _ => true) true Try.f7.params.toList args.toList ds p := hA0
  rw [Try.params7] at hA hval hsz
  obtain ⟨v0, vs0, d0, ds0, p0, q0, hargs, rfl, rfl, h0, r0⟩ := trodAll_cons hA
  obtain ⟨v1, vs1, d1, ds1, p1, q1, rfl, rfl, rfl, h1, r1⟩ := trodAll_cons r0
  obtain ⟨v2, vs2, d2, ds2, p2, q2, rfl, rfl, rfl, h2, r2⟩ := trodAll_cons r1
  obtain ⟨rfl, rfl, rfl⟩ := trodAll_nil r2
  obtain rfl : args = #[v0, v1, v2] := by cases args; simp_all
  obtain ⟨rfl, rfl⟩ := trodVars_none hV
  obtain ⟨a0, rfl, rfl, rfl, w0⟩ := open_int Try.underlying2 (hval 0 2 v0 rfl rfl) h0
  obtain ⟨b1, len1, cap1, rfl⟩ := okWide_slice Try.underlying32 (hval 1 32 v1 rfl rfl)
  have k1 := h1
  have lt1 : ∀ x ∈ p1, x.block < W.heap.size := by obtain ⟨m, hm⟩ := k1; exact DataW.trod_lt m _ _ _ hm
  have y1 : len1 * 40 ≤ 140737488351232 := sized_any hsz (j := 1) (t := 32) rfl rfl Try.underlying32 (by kernel_rfl) h1
  obtain ⟨l1, rfl, hl1, hC1, hm1, hw1⟩ := Opens.row (k := k77) Try.underlying32 opens77 (by kernel_rfl) h1
  obtain ⟨b2, len2, cap2, rfl⟩ := okWide_slice Try.underlying22 (hval 2 22 v2 rfl rfl)
  have k2 := h2
  have lt2 : ∀ x ∈ p2, x.block < W.heap.size := by obtain ⟨m, hm⟩ := k2; exact DataW.trod_lt m _ _ _ hm
  have y2 : len2 * 8 ≤ 140737488351232 := sized_any hsz (j := 2) (t := 22) rfl rfl Try.underlying22 (by kernel_rfl) h2
  obtain ⟨l2, rfl, hl2, hC2, hm2, hw2⟩ := Opens.row (k := (Kd.int .i64)) Try.underlying22 (Opens.int Try.underlying2) (by kernel_rfl) h2
  clear hA0 hval0 hsz0 hsz
  have hpure := Law3.FnExactPathOf a0 l1 l2 (by omega)
  obtain ⟨k, hk⟩ := hpure
  refine (laws_FnExactPathOf.calls k a0 _ _ l1 _ _ l2 true W hC1 hl1 hC2 hl2 hk).mono fun e W' ⟨he, bel⟩ => ?_
  subst he
  exact ⟨_, rfl, _, _, _, [], _, [], hW', trodAll_mk1 (shut_bool Try.underlying4 _), (trodAll_cons_mk (shut_int Try.underlying2 w0) (trodAll_cons_mk (Below.trod laidOut (by kernel_rfl) (of_decide_eq_true (by kernel_rfl)) k1 bel lt1) (trodAll_cons_mk (Below.trod laidOut (by kernel_rfl) (of_decide_eq_true (by kernel_rfl)) k2 bel lt2) trodAll_mk0))), rfl, bel.frame _, fun h => by cases h⟩
theorem over : Rows.fnExactPathOfRow.holds Try.pinned (OpenSpec.ofChange Rows.fnExactPathOfSpec) :=
  OpenClaim.holds_of_wide 7 Try.f7 rfl rfl rfl rfl rfl rfl rfl ⟨rfl, rfl, rfl, rfl, rfl⟩ rfl rfl rfl rfl rfl (by kernel_rfl) Try.func7 (by kernel_rfl)
    (of_decide_eq_true (by kernel_rfl)) (by unfold Func.isWrapper; first | (rw [if_pos (by decide +kernel)]; kernel_rfl) | (rw [if_neg (by decide +kernel)]; exact ⟨rfl, rfl⟩))
    (fun os started H enc _ => lifted os started H enc)
theorem proved : Rows.FnExactPathOfSaid := over
end Go.Proofs.Ytfpcfaapoeeipaa.fnExactPathOf
namespace Go.Proofs.Ytfpcfaapoeeipaa
theorem fnExactPathOf_holds : Rows.FnExactPathOfSaid := fnExactPathOf.proved
end Go.Proofs.Ytfpcfaapoeeipaa
#print axioms Go.Proofs.Ytfpcfaapoeeipaa.fnExactPathOf_holds
