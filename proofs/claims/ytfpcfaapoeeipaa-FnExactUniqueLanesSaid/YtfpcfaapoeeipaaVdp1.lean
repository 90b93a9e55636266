/- Contracts of functions of the given program, written by a program of this session out of the translation: each says that a call of the function does what the Lean function of its name says. -/
import Derived.Test.YtfpcfaapoeeipaaVdy0
import Derived.Test.YtfpcfaapoeeipaaVdp0
import Derived.Test.YtfpcfaapoeeipaaVdy1
namespace Go.Proofs.Ytfpcfaapoeeipaa.P
open Go.RowKit Go.Proofs.YtfpcfaapoeeipaaW.PrintWords Go.Proofs.YtfpcfaapoeeipaaW.PrintLast Go.Proofs.YtfpcfaapoeeipaaW.PrintMore
set_option linter.unusedVariables false
set_option linter.unusedSimpArgs false
def uniqL (l : List Int) : List Int := Go.Lib.compactUpTo (l.mergeSort (fun x y => decide (x ≤ y))).toArray (l.mergeSort (fun x y => decide (x ≤ y))).length
def impl_UniqueLanes.f (a0 : Int) (l1 : List Int) : Option (List Int × Int × Bool) := (impl_IsVector.f a0 l1).bind fun b => if b = true then (if 0 < l1.length ∧ l1.length ≤ 16 ∧ (uniqL l1).length ≤ l1.length then some (uniqL l1 ++ List.replicate (l1.length - (uniqL l1).length) 0, ((uniqL l1).length : Int), true) else none) else some ([], 0, false)
open Go.Sort Go.Lib Go.Shelf in
set_option maxHeartbeats 2000000 in
/-- slices.Compact over a row of the call's own. -/
theorem compact_R (W : World) (base : Nat) (v : Value) (xs : List Int) (n : Nat) (hn : n = xs.length) (h : W.ownsRow base 2 1 v n (xs.map encZ)) (hne : xs ≠ []) (hbig : n ≤ 1000000) (hcl : (compactUpTo xs.toArray xs.length).length ≤ xs.length) :
    Calls Try.prog 49 #[v] W fun e w' => ∃ v' : Value, e = .returned v' ∧ Kd.R (Kd.int .i64) 2 w' base (fun _ => True) v' (compactUpTo xs.toArray xs.length) ∧ W.grownBy w' v.ownBlock := by
  subst hn
  rcases h.2 with ⟨rfl, hz0⟩ | ⟨gb, cap, cur, rfl, hbase, hgb, r1, r2, r3, r4⟩
  · exact absurd (List.eq_nil_of_length_eq_zero hz0) hne
  · have hH : Holds encZ W gb 0 xs.toArray := holds_of_block_i hgb (by simpa using r4)
    have hv23 : ∀ w, (zeroValue (Try.compactA_ren.t 23)).run Try.prog w = .ok (encZ 0) w := fun w => Try.zeroValue2 w
    have hc := AnyE.slices_Compact Try.compactA encZ (fun _ => rfl) (EqlAt.intD Try.prog (Try.compactA_ren.t 23) .i64) (NeqAt.intD Try.prog (Try.compactA_ren.t 23) .i64) 0 hv23 gb 0 cap xs.toArray W hH (by simp; omega) (by simpa using r1)
    change Calls Try.prog 49 _ _ _ at hc
    simp only [List.size_toArray] at hc
    refine hc.mono ?_
    rintro e w' ⟨rfl, q, rfl⟩
    obtain ⟨c, hcc⟩ : ∃ c, c = compactUpTo xs.toArray xs.length := ⟨_, rfl⟩
    rw [← hcc] at hcl ⊢
    have ho := ownsRow_sorted_i (n := q) (os := #[]) (ts := c ++ List.replicate (xs.length - c.length) 0) (ss := xs) (by simp; omega) hbase hgb r1 r2 r3
    have hg := grownBy_sorted_i (w := W) (g := gb) (n := q) (os := #[]) (c ++ List.replicate (xs.length - c.length) 0).toArray
    rw [show ∀ X : World, grow X #[] = X from fun X => by simp [grow]] at ho hg
    have hl : (c ++ List.replicate (xs.length - c.length) 0).length = xs.length := by simp; omega
    have hR : Kd.R (Kd.int .i64) 2 _ base (fun _ => True) _ (c ++ List.replicate (xs.length - c.length) 0) := Kd.R_of_own (enc := Value.int .i64) (h1 := fun _ => rfl) (by rw [hl]; exact ho) (fun _ _ => trivial)
    have hT := Kd.R_take (m := c.length) hR (by simp)
    rw [List.take_left'  rfl] at hT
    exact ⟨_, rfl, hT, hg⟩
set_option maxHeartbeats 4000000 in
set_option maxRecDepth 100000 in
theorem impl_UniqueLanes.calls (a0 : Int) (A1 : Option Addr) (c1 : Nat) (l1 : List Int) (r1 : List Int) (r2 : Int) (r3 : Bool) (w : World) (hr1 : Kd.C (Kd.int .i64) w A1 l1.length l1) (hc1 : l1.length ≤ c1) (h : impl_UniqueLanes.f a0 l1 = some (r1, r2, r3)) :
    Calls Try.prog 13 #[.int .i64 a0, .slice A1 l1.length c1] w fun e w' => ∃ v0_ : Value, e = .returned (.tuple #[v0_, .int .i64 r2, .bool r3]) ∧ Kd.R (Kd.int .i64) 2 w' w.heap.size (fun _ => True) v0_ r1 ∧ Below w.heap.size w w' := by
  unfold impl_UniqueLanes.f at h
  obtain ⟨b, hb, h⟩ := Option.bind_eq_some_iff.mp h
  have HV := Aside0.mk hb
  have HR1 := Aside0.mk hr1
  clear hb hr1
  cases b with
  | false =>
    obtain ⟨rfl, rfl, rfl⟩ : [] = r1 ∧ 0 = r2 ∧ false = r3 := by simpa using h
    clear h
    go_enter Try.func13, Try.ntmps13
    go_wp2_with (go_at_call 48; refine (impl_IsVector.calls a0 A1 c1 l1 false _ HR1.out hc1 HV.out).mono ?_; rintro e w' ⟨rfl, hb'⟩)
    go_ret3
    exact ⟨_, rfl, Kd.R_nil _ _ _ _ _, hb'⟩
  | true =>
    replace h := ifp (show (if 0 < l1.length ∧ l1.length ≤ 16 ∧ (uniqL l1).length ≤ l1.length then some (uniqL l1 ++ List.replicate (l1.length - (uniqL l1).length) 0, ((uniqL l1).length : Int), true) else none) = some (r1, r2, r3) from h)
    obtain ⟨⟨h0, h16, hu⟩, h⟩ := h
    obtain ⟨rfl, rfl, rfl⟩ : uniqL l1 ++ List.replicate (l1.length - (uniqL l1).length) 0 = r1 ∧ ((uniqL l1).length : Int) = r2 ∧ true = r3 := by simpa using h
    obtain ⟨u, hU⟩ : ∃ u, u = uniqL l1 := ⟨_, rfl⟩
    have hcl : (Go.Lib.compactUpTo (l1.mergeSort (fun x y => decide (x ≤ y))).toArray (l1.mergeSort (fun x y => decide (x ≤ y))).length) = u := by rw [hU]; rfl
    rw [← hU] at hu ⊢
    have H0 := Aside0.mk (And.intro h0 (And.intro h16 hu))
    have HU := Aside0.mk hcl
    clear h h0 h16 hu hU hcl
    have hA : ∃ ad, A1 = some ad ∧ ad.block < w.heap.size ∧ ∀ j, j < l1.length → w.cell? (ad.add j) = some (.int .i64 (l1.getD j 0)) := by
      obtain ⟨ad, e, hx⟩ := Kd.at_int HR1.out 0 (by omega) (by have := H0.out.1; omega)
      refine ⟨ad, e, ?_, fun j hj => ?_⟩
      · have := World.block_lt_of_cell? w _ hx
        rwa [add_block] at this
      · obtain ⟨ad', e', hx'⟩ := Kd.at_int HR1.out (j : Int) (by omega) (by omega)
        rw [e] at e'
        cases e'
        simpa [rd] using hx'
    obtain ⟨ad, rfl, had, hcs⟩ := hA
    have HAD := Aside0.mk (And.intro had hcs)
    clear had hcs
    go_enter Try.func13, Try.ntmps13
    go_wp2_with (first
      | (go_at_call 48; refine (impl_IsVector.calls a0 (some ad) c1 l1 true _ HR1.out hc1 HV.out).mono ?_; rintro e w1 ⟨rfl, hb1⟩; have HB := Aside0.mk hb1; clear hb1)
      | (go_at_call 51; refine (Ytfpcfaapoeeipaa.Seq.values_calls (some ad) l1.length c1 _).mono ?_; rintro e w2 ⟨rfl, rfl⟩)
      | (go_at_call 50
         have hB2 : Below w.heap.size w (w1.alloc (.cells #[.slice (some ad) l1.length c1] 22)) := below_alloc HB.out _
         refine (Ytfpcfaapoeeipaa.Seq.sorted_calls w1.heap.size ad c1 l1 (fun e => by have := H0.out.1; rw [e] at this; simp at this) (by have := H0.out.2.1; omega) _ (by simp) (Nat.lt_of_lt_of_le HAD.out.1 (by have := HB.out.size; simp; omega)) (by rw [World.cell?_alloc_at _ _ _ _ rfl]; rfl) (fun j hj => (hB2.cell (p := ad.add j) (by rw [add_block]; exact HAD.out.1)).trans (HAD.out.2 j hj))).mono ?_
         rintro e w3 ⟨v3, rfl, hrow, hb3⟩
         have n0_ := Aside0.mk hrow
         have n1_ := Aside0.mk (below_then hB2 hB2.size hb3)
         have n2_ := Aside0.mk hB2.size
         have n3_ := Aside0.mk hb3.size
         clear HB hrow hb3 hB2; have HW := n0_; have HB := n1_; have HS := n2_; have HS3 := n3_; clear n0_ n1_ n2_ n3_)
      | (go_at_call 49
         refine (compact_R w3 _ v3 (l1.mergeSort (fun x y => decide (x ≤ y))) l1.length (by simp) HW.out (fun e => by have := H0.out.1; have h2 := congrArg List.length e; simp at h2; rw [h2] at this; simp at this) (by have := H0.out.2.1; omega) (by rw [HU.out]; simp; exact H0.out.2.2)).mono ?_
         rintro e w4 ⟨v4, rfl, hR4, hg4⟩
         rw [HU.out] at hR4
         have n0_ := Aside0.mk (pw_below_grown HB.out _ (Nat.le_trans HS.out HS3.out) hg4 (fun k hk => Nat.le_trans HS.out (own_base HW.out k hk)))
         have n1_ := Aside0.mk (Kd.R_lower hR4 HS.out)
         have n2_ := Aside0.mk (Nat.le_trans (Nat.le_trans HS.out HS3.out) hg4.size)
         clear HB HW HS HS3 hR4 hg4; have HB := n0_; have HR4 := n1_; have HS := n2_; clear n0_ n1_ n2_
         obtain ⟨A4, c4, e4⟩ := Kd.R_slice HR4.out
         subst e4)
      | ((with_reducible refine gate_builtin (b := .append) (xs := #[.tmp 19, .tmp 23]) rfl ?_); at_builtin
         refine Kd.R_append_zeros (Kd.int .i64) (w0 := w) w.heap.size rfl (.tmp 19) (.tmp 23) 22 3 2 (.int .i64 0) 8 rfl Try.underlying22 Try.underlying3 info2 rfl (by decide) (by omega) (.slice A4 u.length c4) u 0 _ (fun _ => True) rfl rfl ?aZ (fun _ _ => trivial) HR4.out ?a0 HB.out HS.out ?aL ?_
         (case aZ => exact rfl)
         (case a0 => have := H0.out; unfold wrap64; omega)
         (case aL => have := H0.out; unfold wrap64; omega)
         intro v5 w5 hR5 hb5 hg5 hat5
         rw [show (wrap64 ((l1.length : Int) - (u.length : Int))).toNat = l1.length - u.length by have := H0.out; unfold wrap64; omega] at hR5
         have n0_ := Aside0.mk hR5
         have n1_ := Aside0.mk hb5
         clear hR5 hb5 hg5 hat5 HR4 HB HS; have HR5 := n0_; have HB := n1_; clear n0_ n1_))
    go_ret3
    exact ⟨_, rfl, HR5.out, bst HB⟩
end Go.Proofs.Ytfpcfaapoeeipaa.P
namespace Go.Proofs.Ytfpcfaapoeeipaa.P
open Go.RowKit Go.Proofs.YtfpcfaapoeeipaaW.PrintWords Go.Proofs.YtfpcfaapoeeipaaW.PrintLast Go.Proofs.YtfpcfaapoeeipaaW.PrintMore
set_option linter.unusedVariables false
set_option linter.unusedSimpArgs false
mutual
def laws_FnExactUniqueLanes.j0 : Nat → Int → List Int → List Int → Int → Bool → List Int → List Int → Int → Bool → Bool → Option (Bool)
 | 0, _, _, _, _, _, _, _, _, _, _ => none
 | k + 1, x0, x1, x5, x6, x7, x8, x9, x10, x11, x51 => if x51 = true then (some false) else ((laws_toInt64S.f k x1).bind fun t170 => ((laws_eqInt64S.f k x8 t170).bind fun t173 => (if t173 = true then ((laws_markInt64S.f k x8 1).bind fun bt174 => (if bt174.1 < 0 then (laws_FnExactUniqueLanes.j1 k x0 x1 x5 x6 x7 x9 true) else ((laws_eqInt64S.f k x9 x5).bind fun t176 => (if t176 = true then (if x10 = x6 then (laws_FnExactUniqueLanes.j1 k x0 x1 x5 x6 x7 x9 (x11 != x7)) else (laws_FnExactUniqueLanes.j1 k x0 x1 x5 x6 x7 x9 true)) else (laws_FnExactUniqueLanes.j1 k x0 x1 x5 x6 x7 x9 true))))) else (some false))))
def laws_FnExactUniqueLanes.j1 : Nat → Int → List Int → List Int → Int → Bool → List Int → Bool → Option (Bool)
 | 0, _, _, _, _, _, _, _ => none
 | k + 1, x0, x1, x5, x6, x7, x9, x77 => if x77 = true then (some false) else ((laws_markInt64S.f k x9 1).bind fun bt177 => ((laws_heldInt64S.f k bt177.2 1).bind fun t179 => (if t179 < 0 then (some false) else (if t179 = bt177.1 then ((laws_toInt64S.f k x1).bind fun t180 => ((impl_UniqueLanes.f x0 t180).bind fun bt183 => ((laws_eqInt64S.f k bt183.1 x5).bind fun t188 => (if t188 = true then (if bt183.2.1 = x6 then (laws_FnExactUniqueLanes.j2 k bt177.2 bt177.1 (bt183.2.2 != x7)) else (laws_FnExactUniqueLanes.j2 k bt177.2 bt177.1 true)) else (laws_FnExactUniqueLanes.j2 k bt177.2 bt177.1 true))))) else (some false)))))
def laws_FnExactUniqueLanes.j2 : Nat → List Int → Int → Bool → Option (Bool)
 | 0, _, _, _ => none
 | k + 1, x9, x13, x110 => if x110 = true then (some false) else ((laws_heldInt64S.f k x9 1).bind fun t189 => (if t189 < 0 then (some false) else (if t189 = x13 then (some true) else (some false))))
end
def laws_FnExactUniqueLanes.f (k : Nat) (a0 : Int) (l1 : List Int) : Option (Bool) := if (l1.length : Int) > 1048576 then (some true) else ((laws_toInt64S.f k l1).bind fun t153 => ((spec_UniqueLanes.f k a0 t153).bind fun bt156 => ((laws_toInt64S.f k l1).bind fun t161 => ((impl_UniqueLanes.f a0 t161).bind fun bt164 => ((laws_eqInt64S.f k bt164.1 bt156.1).bind fun t169 => (if t169 = true then (if bt164.2.1 = bt156.2.1 then (laws_FnExactUniqueLanes.j0 k a0 l1 bt156.1 bt156.2.1 bt156.2.2 t161 bt164.1 bt164.2.1 bt164.2.2 (bt164.2.2 != bt156.2.2)) else (laws_FnExactUniqueLanes.j0 k a0 l1 bt156.1 bt156.2.1 bt156.2.2 t161 bt164.1 bt164.2.1 bt164.2.2 true)) else (laws_FnExactUniqueLanes.j0 k a0 l1 bt156.1 bt156.2.1 bt156.2.2 t161 bt164.1 bt164.2.1 bt164.2.2 true)))))))
set_option maxHeartbeats 8000000 in
set_option maxRecDepth 100000 in
theorem laws_FnExactUniqueLanes.calls (k : Nat) (a0 : Int) (A1 : Option Addr) (c1 : Nat) (l1 : List Int) (r : Bool) (w : World) (hr1 : Kd.C (Kd.int .i64) w A1 l1.length l1) (hc1 : l1.length ≤ c1) (h : laws_FnExactUniqueLanes.f k a0 l1 = some r) :
  Calls Try.prog 3 #[.int .i64 a0, .slice A1 l1.length c1] w fun e w' => e = .returned (.bool r) ∧ Below w.heap.size w w' := by
 have HR1 := am hr1
 have HC1 := am hc1
 clear hr1 hc1
 have HB := am (Below.refl w.heap.size w)
 have H : (if (l1.length : Int) > 1048576 then (some true) else ((laws_toInt64S.f k l1).bind fun t153 => ((spec_UniqueLanes.f k a0 t153).bind fun bt156 => ((laws_toInt64S.f k l1).bind fun t161 => ((impl_UniqueLanes.f a0 t161).bind fun bt164 => ((laws_eqInt64S.f k bt164.1 bt156.1).bind fun t169 => (if t169 = true then (if bt164.2.1 = bt156.2.1 then (laws_FnExactUniqueLanes.j0 k a0 l1 bt156.1 bt156.2.1 bt156.2.2 t161 bt164.1 bt164.2.1 bt164.2.2 (bt164.2.2 != bt156.2.2)) else (laws_FnExactUniqueLanes.j0 k a0 l1 bt156.1 bt156.2.1 bt156.2.2 t161 bt164.1 bt164.2.1 bt164.2.2 true)) else (laws_FnExactUniqueLanes.j0 k a0 l1 bt156.1 bt156.2.1 bt156.2.2 t161 bt164.1 bt164.2.1 bt164.2.2 true)))))))) = some r := h
 clear h
 by_cases c3 : (l1.length : Int) > 1048576
 ·
  rw [if_pos c3] at H
  have c3b0 : decide (1048576 < (l1.length : Int)) = true := decide_eq_true c3
  have c3b1 : decide (1048576 < l1.length) = true := decide_eq_true (by omega)
  clear c3
  obtain rfl := Option.some.inj H
  go_enter Try.func3, Try.ntmps3
  go_wp2
  go_ret
  exact ⟨by first | rfl | (simp [errW_none, errW_some] <;> rfl) | (simp [*, errW_none, errW_some] <;> rfl), by repeat (first | (with_reducible first | exact HB.out | apply below_alloc | apply pw_below_drewN | apply below_drew1) | exact HB.out)⟩
 ·
  rw [if_neg c3] at H
  have c3b0 : decide (1048576 < (l1.length : Int)) = false := decide_eq_false c3
  have c3b1 : decide (1048576 < l1.length) = false := decide_eq_false (by omega)
  clear c3
  replace H := Option.bind_eq_some_iff.mp H
  obtain ⟨t153, A40, H⟩ := H
  replace H : ((spec_UniqueLanes.f k a0 t153).bind fun bt156 => ((laws_toInt64S.f k l1).bind fun t161 => ((impl_UniqueLanes.f a0 t161).bind fun bt164 => ((laws_eqInt64S.f k bt164.1 bt156.1).bind fun t169 => (if t169 = true then (if bt164.2.1 = bt156.2.1 then (laws_FnExactUniqueLanes.j0 k a0 l1 bt156.1 bt156.2.1 bt156.2.2 t161 bt164.1 bt164.2.1 bt164.2.2 (bt164.2.2 != bt156.2.2)) else (laws_FnExactUniqueLanes.j0 k a0 l1 bt156.1 bt156.2.1 bt156.2.2 t161 bt164.1 bt164.2.1 bt164.2.2 true)) else (laws_FnExactUniqueLanes.j0 k a0 l1 bt156.1 bt156.2.1 bt156.2.2 t161 bt164.1 bt164.2.1 bt164.2.2 true)))))) = some r := H
  have A4 := am A40
  clear A40
  replace H := Option.bind_eq_some_iff.mp H
  obtain ⟨⟨t156, t157, t158⟩, A50, H⟩ := H
  replace H : ((laws_toInt64S.f k l1).bind fun t161 => ((impl_UniqueLanes.f a0 t161).bind fun bt164 => ((laws_eqInt64S.f k bt164.1 t156).bind fun t169 => (if t169 = true then (if bt164.2.1 = t157 then (laws_FnExactUniqueLanes.j0 k a0 l1 t156 t157 t158 t161 bt164.1 bt164.2.1 bt164.2.2 (bt164.2.2 != t158)) else (laws_FnExactUniqueLanes.j0 k a0 l1 t156 t157 t158 t161 bt164.1 bt164.2.1 bt164.2.2 true)) else (laws_FnExactUniqueLanes.j0 k a0 l1 t156 t157 t158 t161 bt164.1 bt164.2.1 bt164.2.2 true))))) = some r := H
  have A5 := am A50
  clear A50
  replace H := Option.bind_eq_some_iff.mp H
  obtain ⟨t161, A60, H⟩ := H
  replace H : ((impl_UniqueLanes.f a0 t161).bind fun bt164 => ((laws_eqInt64S.f k bt164.1 t156).bind fun t169 => (if t169 = true then (if bt164.2.1 = t157 then (laws_FnExactUniqueLanes.j0 k a0 l1 t156 t157 t158 t161 bt164.1 bt164.2.1 bt164.2.2 (bt164.2.2 != t158)) else (laws_FnExactUniqueLanes.j0 k a0 l1 t156 t157 t158 t161 bt164.1 bt164.2.1 bt164.2.2 true)) else (laws_FnExactUniqueLanes.j0 k a0 l1 t156 t157 t158 t161 bt164.1 bt164.2.1 bt164.2.2 true)))) = some r := H
  have A6 := am A60
  clear A60
  replace H := Option.bind_eq_some_iff.mp H
  obtain ⟨⟨t164, t165, t166⟩, A70, H⟩ := H
  replace H : ((laws_eqInt64S.f k t164 t156).bind fun t169 => (if t169 = true then (if t165 = t157 then (laws_FnExactUniqueLanes.j0 k a0 l1 t156 t157 t158 t161 t164 t165 t166 (t166 != t158)) else (laws_FnExactUniqueLanes.j0 k a0 l1 t156 t157 t158 t161 t164 t165 t166 true)) else (laws_FnExactUniqueLanes.j0 k a0 l1 t156 t157 t158 t161 t164 t165 t166 true))) = some r := H
  have A7 := am A70
  clear A70
  have HC8 := am H
  clear H
  go_enter Try.func3, Try.ntmps3
  go_upto_region 6 with (first | ((with_reducible refine gate_callee (f := 12) rfl ?_); refine goesL_ (some 24) rfl rfl Try.func12 (by kernel_rfl) rfl #[.slice A1 l1.length c1] rfl (by (try simp only [List.map_toArray, List.map_cons, List.map_nil]); first | done | rfl | (simp only [List.length_drop, List.length_take]; rfl)) ?_; (with_reducible refine (laws_toInt64S.calls k _ _ l1 t153 _ ?side1 ?side2 A4.out).mono ?_); (case side1 => repeat (first | exact HR1.out | (with_reducible refine Kd.C_alloc ?_ _) | (with_reducible refine Kd.C_drewN ?_ _) | (with_reducible refine Kd.C_drew ?_))); (case side2 => exact HC1.out); rintro e w9 ⟨v154, rfl, ho0, hb⟩; refine ⟨_, rfl, ?_⟩; have n0_ := am (Kd.R_lower ho0 (below_size (bst HB))); have n1_ := am (below_step (bst HB) hb); clear HB; have HO155 := n0_; have HB := n1_; clear n0_ n1_; (try clear hb); (try clear hb2); (try clear hk); (try clear hi); (try clear ho0); obtain ⟨Ao10, co10, eo10⟩ := Kd.R_slice HO155.out; subst eo10) | ((with_reducible refine gate_callee (f := 11) rfl ?_); refine goesL_ (some 25) rfl rfl Try.func11 (by kernel_rfl) rfl #[.int .i64 a0, .slice Ao10 t153.length co10] rfl (by (try simp only [List.map_toArray, List.map_cons, List.map_nil]); first | done | rfl | (simp only [List.length_drop, List.length_take]; rfl)) ?_; (with_reducible refine (spec_UniqueLanes.calls k a0 _ _ t153 t156 t157 t158 _ ?side1 ?side2 A5.out).mono ?_); (case side1 => repeat (first | exact (Kd.R_reads' HO155.out).2.2 | (with_reducible refine Kd.C_alloc ?_ _) | (with_reducible refine Kd.C_drewN ?_ _) | (with_reducible refine Kd.C_drew ?_))); (case side2 => exact (Kd.R_reads' HO155.out).2.1); rintro e w11 ⟨v159, rfl, ho0, hb⟩; refine ⟨_, rfl, ?_⟩; have n0_ := am (Kd.R_elder' (rst HO155.out) (Kd.R_base ho0) hb); have n1_ := am (Kd.R_lower (Kd.R_new' ho0 (Kd.R_lt (rst HO155.out))) (below_size (bst HB))); have n2_ := am (below_step (bst HB) hb); clear HO155; clear HB; have HO155 := n0_; have HO160 := n1_; have HB := n2_; clear n0_ n1_ n2_; (try clear hb); (try clear hb2); (try clear hk); (try clear hi); (try clear ho0)) | ((with_reducible refine gate_callee (f := 12) rfl ?_); refine goesL_ (some 30) rfl rfl Try.func12 (by kernel_rfl) rfl #[.slice A1 l1.length c1] rfl (by (try simp only [List.map_toArray, List.map_cons, List.map_nil]); first | done | rfl | (simp only [List.length_drop, List.length_take]; rfl)) ?_; (with_reducible refine (laws_toInt64S.calls k _ _ l1 t161 _ ?side1 ?side2 A6.out).mono ?_); (case side1 => repeat (first | exact (Kd.C_below HR1.out HB.out) | (with_reducible refine Kd.C_alloc ?_ _) | (with_reducible refine Kd.C_drewN ?_ _) | (with_reducible refine Kd.C_drew ?_))); (case side2 => exact HC1.out); rintro e w12 ⟨v162, rfl, ho0, hb⟩; refine ⟨_, rfl, ?_⟩; have n0_ := am (Kd.R_elder' (rst HO155.out) (Kd.R_base ho0) hb); have n1_ := am (Kd.R_elder' (rst HO160.out) (Kd.R_base ho0) hb); have n2_ := am (Kd.R_lower (Kd.R_new' (Kd.R_new' ho0 (Kd.R_lt (rst HO155.out))) (Kd.R_lt (rst HO160.out))) (below_size (bst HB))); have n3_ := am (below_step (bst HB) hb); clear HO155; clear HO160; clear HB; have HO155 := n0_; have HO160 := n1_; have HO163 := n2_; have HB := n3_; clear n0_ n1_ n2_ n3_; (try clear hb); (try clear hb2); (try clear hk); (try clear hi); (try clear ho0); obtain ⟨Ao13, co13, eo13⟩ := Kd.R_slice HO163.out; subst eo13) | ((with_reducible refine gate_callee (f := 13) rfl ?_); refine goesL_ (some 34) rfl rfl Try.func13 (by kernel_rfl) rfl #[.int .i64 a0, .slice Ao13 t161.length co13] rfl (by (try simp only [List.map_toArray, List.map_cons, List.map_nil]); first | done | rfl | (simp only [List.length_drop, List.length_take]; rfl)) ?_; (with_reducible refine (impl_UniqueLanes.calls a0 _ _ t161 t164 t165 t166 _ ?side1 ?side2 A7.out).mono ?_); (case side1 => repeat (first | exact (Kd.R_reads' HO163.out).2.2 | (with_reducible refine Kd.C_alloc ?_ _) | (with_reducible refine Kd.C_drewN ?_ _) | (with_reducible refine Kd.C_drew ?_))); (case side2 => exact (Kd.R_reads' HO163.out).2.1); rintro e w14 ⟨v167, rfl, ho0, hb⟩; refine ⟨_, rfl, ?_⟩; have n0_ := am (Kd.R_elder' (rst HO155.out) (Kd.R_base ho0) hb); have n1_ := am (Kd.R_elder' (rst HO160.out) (Kd.R_base ho0) hb); have n2_ := am (Kd.R_elder' (rst HO163.out) (Kd.R_base ho0) hb); have n3_ := am (Kd.R_lower (Kd.R_new' (Kd.R_new' (Kd.R_new' ho0 (Kd.R_lt (rst HO155.out))) (Kd.R_lt (rst HO160.out))) (Kd.R_lt (rst HO163.out))) (below_size (bst HB))); have n4_ := am (below_step (bst HB) hb); clear HO155; clear HO160; clear HO163; clear HB; have HO155 := n0_; have HO160 := n1_; have HO163 := n2_; have HO168 := n3_; have HB := n4_; clear n0_ n1_ n2_ n3_ n4_; (try clear hb); (try clear hb2); (try clear hk); (try clear hi); (try clear ho0)))
  (try simp only [Act.put, List.setIfInBounds_toArray, List.set_cons_zero, List.set_cons_succ])
  go_cut [51] (fun v51 wc => ∃ (kq : Nat) (x51_7 : Bool), v51 = .bool x51_7 ∧ Aside0 (laws_FnExactUniqueLanes.j0 kq a0 l1 t156 t157 t158 t161 t164 t165 t166 x51_7 = some r) ∧ Aside0 (kq ≤ k) ∧ Aside0 (Kd.R (Kd.int .i64) 2 wc w.heap.size (fun k_ => some k_ ≠ ((.slice Ao13 t161.length co13) : Value).ownBlock ∧ some k_ ≠ (v167 : Value).ownBlock) v159 t156) ∧ Aside0 (Kd.R (Kd.int .i64) 2 wc w.heap.size (fun k_ => some k_ ≠ (v159 : Value).ownBlock ∧ some k_ ≠ (v167 : Value).ownBlock) (.slice Ao13 t161.length co13) t161) ∧ Aside0 (Kd.R (Kd.int .i64) 2 wc w.heap.size (fun k_ => some k_ ≠ (v159 : Value).ownBlock ∧ some k_ ≠ ((.slice Ao13 t161.length co13) : Value).ownBlock) v167 t164) ∧ Aside0 (Below w.heap.size w wc))
  case first =>
   have H := HC8.out
   clear HC8
   replace H := Option.bind_eq_some_iff.mp H
   obtain ⟨t169, A150, H⟩ := H
   replace H : (if t169 = true then (if t165 = t157 then (laws_FnExactUniqueLanes.j0 k a0 l1 t156 t157 t158 t161 t164 t165 t166 (t166 != t158)) else (laws_FnExactUniqueLanes.j0 k a0 l1 t156 t157 t158 t161 t164 t165 t166 true)) else (laws_FnExactUniqueLanes.j0 k a0 l1 t156 t157 t158 t161 t164 t165 t166 true)) = some r := H
   have A15 := am A150
   clear A150
   by_cases c16 : t169 = true
   ·
    subst c16
    have H1 : (if t165 = t157 then (laws_FnExactUniqueLanes.j0 k a0 l1 t156 t157 t158 t161 t164 t165 t166 (t166 != t158)) else (laws_FnExactUniqueLanes.j0 k a0 l1 t156 t157 t158 t161 t164 t165 t166 true)) = some r := by rw [if_pos rfl] at H; exact H
    clear H
    have H := H1
    clear H1
    by_cases c17 : t165 = t157
    ·
     rw [if_pos c17] at H
     have c17b0 : (t165 == t157) = true := beq_iff_eq.mpr c17
     have c17b1 : (t165 != t157) = false := bne_eq_false_iff_eq.mpr c17
     clear c17
     (first | rw [c17b0] | (simp only [i64_w, i32_w]; rw [c17b0]) | skip)
     have H' := am H; clear H
     obtain ⟨Ao18, co18, eo18⟩ := Kd.R_slice HO168.out
     subst eo18
     obtain ⟨Ao19, co19, eo19⟩ := Kd.R_slice HO160.out
     subst eo19
     go_wp2_with (first | ((with_reducible refine gate_callee (f := 14) rfl ?_); refine goesL_ (some 40) rfl rfl Try.func14 (by kernel_rfl) rfl #[.slice Ao18 t164.length co18, .slice Ao19 t156.length co19] rfl (by (try simp only [List.map_toArray, List.map_cons, List.map_nil]); first | done | rfl | (simp only [List.length_drop, List.length_take]; rfl)) ?_; (with_reducible refine (laws_eqInt64S.calls k _ _ t164 _ _ t156 true _ ?side1 ?side2 ?side3 ?side4 A15.out).mono ?_); (case side1 => repeat (first | exact (Kd.R_reads' HO168.out).2.2 | (with_reducible refine Kd.C_alloc ?_ _) | (with_reducible refine Kd.C_drewN ?_ _) | (with_reducible refine Kd.C_drew ?_))); (case side2 => exact (Kd.R_reads' HO168.out).2.1); (case side3 => repeat (first | exact (Kd.R_reads' HO160.out).2.2 | (with_reducible refine Kd.C_alloc ?_ _) | (with_reducible refine Kd.C_drewN ?_ _) | (with_reducible refine Kd.C_drew ?_))); (case side4 => exact (Kd.R_reads' HO160.out).2.1); rintro e w' ⟨rfl, ⟨nd, rfl⟩⟩; refine ⟨_, rfl, ?_⟩))
     go_meet
     case rel => exact ⟨_, ((t166 != t158)), (by first | rfl | (simp; done) | (simp [*]; done)), H', ⟨by first | omega | exact Nat.le_refl _⟩, ⟨by first | exact rst (Kd.R_mono HO160.out (fun _ hk => ⟨hk.1.2, hk.2⟩)) | exact Kd.R_mono (rst (Kd.R_mono HO160.out (fun _ hk => ⟨hk.1.2, hk.2⟩))) (by intro k_ hk_; simpa only [ob_eq] using hk_)⟩, ⟨by first | exact rst (Kd.R_mono HO163.out (fun _ hk => ⟨hk.1.2, hk.2⟩)) | exact Kd.R_mono (rst (Kd.R_mono HO163.out (fun _ hk => ⟨hk.1.2, hk.2⟩))) (by intro k_ hk_; simpa only [ob_eq] using hk_)⟩, ⟨by first | exact rst (Kd.R_mono HO168.out (fun _ hk => ⟨hk.1.2, hk.2⟩)) | exact Kd.R_mono (rst (Kd.R_mono HO168.out (fun _ hk => ⟨hk.1.2, hk.2⟩))) (by intro k_ hk_; simpa only [ob_eq] using hk_)⟩, ⟨bst HB⟩⟩
    ·
     rw [if_neg c17] at H
     have c17b0 : (t165 == t157) = false := beq_eq_false_iff_ne.mpr c17
     have c17b1 : (t165 != t157) = true := bne_iff_ne.mpr c17
     (first | rw [c17b0] | (simp only [i64_w, i32_w]; rw [c17b0]) | skip)
     have H' := am H; clear H
     obtain ⟨Ao20, co20, eo20⟩ := Kd.R_slice HO168.out
     subst eo20
     obtain ⟨Ao21, co21, eo21⟩ := Kd.R_slice HO160.out
     subst eo21
     go_wp2_with (first | ((with_reducible refine gate_callee (f := 14) rfl ?_); refine goesL_ (some 40) rfl rfl Try.func14 (by kernel_rfl) rfl #[.slice Ao20 t164.length co20, .slice Ao21 t156.length co21] rfl (by (try simp only [List.map_toArray, List.map_cons, List.map_nil]); first | done | rfl | (simp only [List.length_drop, List.length_take]; rfl)) ?_; (with_reducible refine (laws_eqInt64S.calls k _ _ t164 _ _ t156 true _ ?side1 ?side2 ?side3 ?side4 A15.out).mono ?_); (case side1 => repeat (first | exact (Kd.R_reads' HO168.out).2.2 | (with_reducible refine Kd.C_alloc ?_ _) | (with_reducible refine Kd.C_drewN ?_ _) | (with_reducible refine Kd.C_drew ?_))); (case side2 => exact (Kd.R_reads' HO168.out).2.1); (case side3 => repeat (first | exact (Kd.R_reads' HO160.out).2.2 | (with_reducible refine Kd.C_alloc ?_ _) | (with_reducible refine Kd.C_drewN ?_ _) | (with_reducible refine Kd.C_drew ?_))); (case side4 => exact (Kd.R_reads' HO160.out).2.1); rintro e w' ⟨rfl, ⟨nd, rfl⟩⟩; refine ⟨_, rfl, ?_⟩))
     go_meet
     case rel => exact ⟨_, (true), (by first | rfl | (simp; done) | (simp [*]; done)), H', ⟨by first | omega | exact Nat.le_refl _⟩, ⟨by first | exact rst (Kd.R_mono HO160.out (fun _ hk => ⟨hk.1.2, hk.2⟩)) | exact Kd.R_mono (rst (Kd.R_mono HO160.out (fun _ hk => ⟨hk.1.2, hk.2⟩))) (by intro k_ hk_; simpa only [ob_eq] using hk_)⟩, ⟨by first | exact rst (Kd.R_mono HO163.out (fun _ hk => ⟨hk.1.2, hk.2⟩)) | exact Kd.R_mono (rst (Kd.R_mono HO163.out (fun _ hk => ⟨hk.1.2, hk.2⟩))) (by intro k_ hk_; simpa only [ob_eq] using hk_)⟩, ⟨by first | exact rst (Kd.R_mono HO168.out (fun _ hk => ⟨hk.1.2, hk.2⟩)) | exact Kd.R_mono (rst (Kd.R_mono HO168.out (fun _ hk => ⟨hk.1.2, hk.2⟩))) (by intro k_ hk_; simpa only [ob_eq] using hk_)⟩, ⟨bst HB⟩⟩
   ·
    replace c16 := Bool.eq_false_iff.mpr c16
    subst c16
    have H1 : (laws_FnExactUniqueLanes.j0 k a0 l1 t156 t157 t158 t161 t164 t165 t166 true) = some r := by rw [if_neg (show ¬ (false = true) by decide)] at H; exact H
    clear H
    have H := H1
    clear H1; have H' := am H; clear H
    obtain ⟨Ao22, co22, eo22⟩ := Kd.R_slice HO168.out
    subst eo22
    obtain ⟨Ao23, co23, eo23⟩ := Kd.R_slice HO160.out
    subst eo23
    go_wp2_with (first | ((with_reducible refine gate_callee (f := 14) rfl ?_); refine goesL_ (some 40) rfl rfl Try.func14 (by kernel_rfl) rfl #[.slice Ao22 t164.length co22, .slice Ao23 t156.length co23] rfl (by (try simp only [List.map_toArray, List.map_cons, List.map_nil]); first | done | rfl | (simp only [List.length_drop, List.length_take]; rfl)) ?_; (with_reducible refine (laws_eqInt64S.calls k _ _ t164 _ _ t156 false _ ?side1 ?side2 ?side3 ?side4 A15.out).mono ?_); (case side1 => repeat (first | exact (Kd.R_reads' HO168.out).2.2 | (with_reducible refine Kd.C_alloc ?_ _) | (with_reducible refine Kd.C_drewN ?_ _) | (with_reducible refine Kd.C_drew ?_))); (case side2 => exact (Kd.R_reads' HO168.out).2.1); (case side3 => repeat (first | exact (Kd.R_reads' HO160.out).2.2 | (with_reducible refine Kd.C_alloc ?_ _) | (with_reducible refine Kd.C_drewN ?_ _) | (with_reducible refine Kd.C_drew ?_))); (case side4 => exact (Kd.R_reads' HO160.out).2.1); rintro e w' ⟨rfl, ⟨nd, rfl⟩⟩; refine ⟨_, rfl, ?_⟩))
    go_meet
    case rel => exact ⟨_, (true), (by first | rfl | (simp; done) | (simp [*]; done)), H', ⟨by first | omega | exact Nat.le_refl _⟩, ⟨by first | exact rst (Kd.R_mono HO160.out (fun _ hk => ⟨hk.1.2, hk.2⟩)) | exact Kd.R_mono (rst (Kd.R_mono HO160.out (fun _ hk => ⟨hk.1.2, hk.2⟩))) (by intro k_ hk_; simpa only [ob_eq] using hk_)⟩, ⟨by first | exact rst (Kd.R_mono HO163.out (fun _ hk => ⟨hk.1.2, hk.2⟩)) | exact Kd.R_mono (rst (Kd.R_mono HO163.out (fun _ hk => ⟨hk.1.2, hk.2⟩))) (by intro k_ hk_; simpa only [ob_eq] using hk_)⟩, ⟨by first | exact rst (Kd.R_mono HO168.out (fun _ hk => ⟨hk.1.2, hk.2⟩)) | exact Kd.R_mono (rst (Kd.R_mono HO168.out (fun _ hk => ⟨hk.1.2, hk.2⟩))) (by intro k_ hk_; simpa only [ob_eq] using hk_)⟩, ⟨bst HB⟩⟩
  case rest =>
   clear HC8; (try clear c1); (try clear p2); (try clear c3); (try clear c3b0); (try clear c3b1); (try clear c11); (try clear c12); (try clear c13); (try clear c14); (try clear c16); (try clear c17); (try clear c17b0); (try clear c17b1)
   obtain ⟨kq, x51_7, rfl, HA, HJ7, HO_5, HO_8, HO_9, HB⟩ := hcut
   cases kq with
   | zero => exact absurd HA.out (by simp [laws_FnExactUniqueLanes.j0])
   | succ kj7 =>
    have H := HA.out
    clear HA
    simp only [laws_FnExactUniqueLanes.j0] at H
    by_cases c24 : x51_7 = true
    ·
     subst c24
     have H1 : (some false) = some r := by rw [if_pos rfl] at H; exact H
     clear H
     have H := H1
     clear H1
     obtain rfl := Option.some.inj H
     go_wp2
     go_ret
     exact ⟨by first | rfl | (simp [errW_none, errW_some] <;> rfl) | (simp [*, errW_none, errW_some] <;> rfl), by repeat (first | (with_reducible first | exact HB.out | apply below_alloc | apply pw_below_drewN | apply below_drew1) | exact HB.out)⟩
    ·
     replace c24 := Bool.eq_false_iff.mpr c24
     subst c24
     have H1 : ((laws_toInt64S.f kj7 l1).bind fun t170 => ((laws_eqInt64S.f kj7 t161 t170).bind fun t173 => (if t173 = true then ((laws_markInt64S.f kj7 t161 1).bind fun bt174 => (if bt174.1 < 0 then (laws_FnExactUniqueLanes.j1 kj7 a0 l1 t156 t157 t158 t164 true) else ((laws_eqInt64S.f kj7 t164 t156).bind fun t176 => (if t176 = true then (if t165 = t157 then (laws_FnExactUniqueLanes.j1 kj7 a0 l1 t156 t157 t158 t164 (t166 != t158)) else (laws_FnExactUniqueLanes.j1 kj7 a0 l1 t156 t157 t158 t164 true)) else (laws_FnExactUniqueLanes.j1 kj7 a0 l1 t156 t157 t158 t164 true))))) else (some false)))) = some r := by rw [if_neg (show ¬ (false = true) by decide)] at H; exact H
     clear H
     have H := H1
     clear H1
     replace H := Option.bind_eq_some_iff.mp H
     obtain ⟨t170, A250, H⟩ := H
     replace H : ((laws_eqInt64S.f kj7 t161 t170).bind fun t173 => (if t173 = true then ((laws_markInt64S.f kj7 t161 1).bind fun bt174 => (if bt174.1 < 0 then (laws_FnExactUniqueLanes.j1 kj7 a0 l1 t156 t157 t158 t164 true) else ((laws_eqInt64S.f kj7 t164 t156).bind fun t176 => (if t176 = true then (if t165 = t157 then (laws_FnExactUniqueLanes.j1 kj7 a0 l1 t156 t157 t158 t164 (t166 != t158)) else (laws_FnExactUniqueLanes.j1 kj7 a0 l1 t156 t157 t158 t164 true)) else (laws_FnExactUniqueLanes.j1 kj7 a0 l1 t156 t157 t158 t164 true))))) else (some false))) = some r := H
     have A25 := am A250
     clear A250
     replace H := Option.bind_eq_some_iff.mp H
     obtain ⟨t173, A260, H⟩ := H
     replace H : (if t173 = true then ((laws_markInt64S.f kj7 t161 1).bind fun bt174 => (if bt174.1 < 0 then (laws_FnExactUniqueLanes.j1 kj7 a0 l1 t156 t157 t158 t164 true) else ((laws_eqInt64S.f kj7 t164 t156).bind fun t176 => (if t176 = true then (if t165 = t157 then (laws_FnExactUniqueLanes.j1 kj7 a0 l1 t156 t157 t158 t164 (t166 != t158)) else (laws_FnExactUniqueLanes.j1 kj7 a0 l1 t156 t157 t158 t164 true)) else (laws_FnExactUniqueLanes.j1 kj7 a0 l1 t156 t157 t158 t164 true))))) else (some false)) = some r := H
     have A26 := am A260
     clear A260
     by_cases c27 : t173 = true
     ·
      subst c27
      have H1 : ((laws_markInt64S.f kj7 t161 1).bind fun bt174 => (if bt174.1 < 0 then (laws_FnExactUniqueLanes.j1 kj7 a0 l1 t156 t157 t158 t164 true) else ((laws_eqInt64S.f kj7 t164 t156).bind fun t176 => (if t176 = true then (if t165 = t157 then (laws_FnExactUniqueLanes.j1 kj7 a0 l1 t156 t157 t158 t164 (t166 != t158)) else (laws_FnExactUniqueLanes.j1 kj7 a0 l1 t156 t157 t158 t164 true)) else (laws_FnExactUniqueLanes.j1 kj7 a0 l1 t156 t157 t158 t164 true))))) = some r := by rw [if_pos rfl] at H; exact H
      clear H
      have H := H1
      clear H1
      replace H := Option.bind_eq_some_iff.mp H
      obtain ⟨⟨t174, t175⟩, A280, H⟩ := H
      replace H : (if t174 < 0 then (laws_FnExactUniqueLanes.j1 kj7 a0 l1 t156 t157 t158 t164 true) else ((laws_eqInt64S.f kj7 t164 t156).bind fun t176 => (if t176 = true then (if t165 = t157 then (laws_FnExactUniqueLanes.j1 kj7 a0 l1 t156 t157 t158 t164 (t166 != t158)) else (laws_FnExactUniqueLanes.j1 kj7 a0 l1 t156 t157 t158 t164 true)) else (laws_FnExactUniqueLanes.j1 kj7 a0 l1 t156 t157 t158 t164 true)))) = some r := H
      have A28 := am A280
      clear A280
      have HC29 := am H
      clear H
      go_upto_region 12 with (first | ((with_reducible refine gate_callee (f := 12) rfl ?_); refine goesL_ (some 54) rfl rfl Try.func12 (by kernel_rfl) rfl #[.slice A1 l1.length c1] rfl (by (try simp only [List.map_toArray, List.map_cons, List.map_nil]); first | done | rfl | (simp only [List.length_drop, List.length_take]; rfl)) ?_; (with_reducible refine (laws_toInt64S.calls kj7 _ _ l1 t170 _ ?side1 ?side2 A25.out).mono ?_); (case side1 => repeat (first | exact (Kd.C_below HR1.out HB.out) | (with_reducible refine Kd.C_alloc ?_ _) | (with_reducible refine Kd.C_drewN ?_ _) | (with_reducible refine Kd.C_drew ?_))); (case side2 => exact HC1.out); rintro e w30 ⟨v171, rfl, ho0, hb⟩; refine ⟨_, rfl, ?_⟩; have n0_ := am (Kd.R_elder' (rst HO_5.out) (Kd.R_base ho0) hb); have n1_ := am (Kd.R_elder' (rst HO_8.out) (Kd.R_base ho0) hb); have n2_ := am (Kd.R_elder' (rst HO_9.out) (Kd.R_base ho0) hb); have n3_ := am (Kd.R_lower (Kd.R_new' (Kd.R_new' (Kd.R_new' ho0 (Kd.R_lt (rst HO_5.out))) (Kd.R_lt (rst HO_8.out))) (Kd.R_lt (rst HO_9.out))) (below_size (bst HB))); have n4_ := am (below_step (bst HB) hb); clear HO_5; clear HO_8; clear HO_9; clear HB; have HO_5 := n0_; have HO_8 := n1_; have HO_9 := n2_; have HO172 := n3_; have HB := n4_; clear n0_ n1_ n2_ n3_ n4_; (try clear hb); (try clear hb2); (try clear hk); (try clear hi); (try clear ho0); obtain ⟨Ao31, co31, eo31⟩ := Kd.R_slice HO172.out; subst eo31) | ((with_reducible refine gate_callee (f := 14) rfl ?_); refine goesL_ (some 55) rfl rfl Try.func14 (by kernel_rfl) rfl #[.slice Ao13 t161.length co13, .slice Ao31 t170.length co31] rfl (by (try simp only [List.map_toArray, List.map_cons, List.map_nil]); first | done | rfl | (simp only [List.length_drop, List.length_take]; rfl)) ?_; (with_reducible refine (laws_eqInt64S.calls kj7 _ _ t161 _ _ t170 true _ ?side1 ?side2 ?side3 ?side4 A26.out).mono ?_); (case side1 => repeat (first | exact (Kd.R_reads' HO_8.out).2.2 | (with_reducible refine Kd.C_alloc ?_ _) | (with_reducible refine Kd.C_drewN ?_ _) | (with_reducible refine Kd.C_drew ?_))); (case side2 => exact (Kd.R_reads' HO_8.out).2.1); (case side3 => repeat (first | exact (Kd.R_reads' HO172.out).2.2 | (with_reducible refine Kd.C_alloc ?_ _) | (with_reducible refine Kd.C_drewN ?_ _) | (with_reducible refine Kd.C_drew ?_))); (case side4 => exact (Kd.R_reads' HO172.out).2.1); rintro e w' ⟨rfl, ⟨nd, rfl⟩⟩; refine ⟨_, rfl, ?_⟩) | ((with_reducible refine gate_callee (f := 15) rfl ?_); refine goesL_ (some 59) rfl rfl Try.func15 (by kernel_rfl) rfl #[.slice Ao13 t161.length co13, .int .i64 1] rfl (by (try simp only [List.map_toArray, List.map_cons, List.map_nil]); first | done | rfl | (simp only [List.length_drop, List.length_take]; rfl)) ?_; (with_reducible refine (laws_markInt64S.calls kj7 (fun k_ => some k_ = (.slice Ao13 t161.length co13 : Value).ownBlock) (.slice Ao13 t161.length co13) t161 1 t174 t175 w _ ?side1 ?side2 A28.out).mono ?_); (case side1 => repeat (first | (with_reducible first | exact HB.out | apply below_alloc | apply pw_below_drewN | apply below_drew1) | exact HB.out)); (case side2 => exact Kd.R_tight rfl HO_8.out); rintro e w32 ⟨rfl, hy0, hb, hkp⟩; refine ⟨_, rfl, ?_⟩; have n0_ := am (Kd.R_mono (ok' := fun k_ => some k_ ≠ (.slice Ao13 t161.length co13 : Value).ownBlock ∧ some k_ ≠ (v167 : Value).ownBlock ∧ some k_ ≠ (.slice Ao31 t170.length co31 : Value).ownBlock) (Kd.R_keptB (HO_5.out) hkp (fun k_ hk_ hs_ => (hk_.1.1) hs_)) (fun k_ hk_ => ⟨hk_.1.1.1, hk_.1.1.2, hk_.1.2⟩)); have n1_ := am (Kd.R_reok rfl hy0 (fun k_ e_ => HO_8.out.1 k_ e_)); have n2_ := am (Kd.R_mono (ok' := fun k_ => some k_ ≠ (v159 : Value).ownBlock ∧ some k_ ≠ (.slice Ao13 t161.length co13 : Value).ownBlock ∧ some k_ ≠ (.slice Ao31 t170.length co31 : Value).ownBlock) (Kd.R_keptB (HO_9.out) hkp (fun k_ hk_ hs_ => (hk_.1.2) hs_)) (fun k_ hk_ => ⟨hk_.1.1.1, hk_.1.1.2, hk_.1.2⟩)); have n3_ := am (Kd.R_mono (ok' := fun k_ => some k_ ≠ (v159 : Value).ownBlock ∧ some k_ ≠ (.slice Ao13 t161.length co13 : Value).ownBlock ∧ some k_ ≠ (v167 : Value).ownBlock) (Kd.R_keptB (HO172.out) hkp (fun k_ hk_ hs_ => (hk_.1.2) hs_)) (fun k_ hk_ => ⟨hk_.1.1.1.2, hk_.1.1.2, hk_.1.2⟩)); have n4_ := am (hb); clear HO_5; clear HO_8; clear HO_9; clear HO172; clear HB; have HO_5 := n0_; have HO_8 := n1_; have HO_9 := n2_; have HO172 := n3_; have HB := n4_; clear n0_ n1_ n2_ n3_ n4_; (try clear hb); (try clear hkp); (try clear hy0)))
      (try simp only [Act.put, List.setIfInBounds_toArray, List.set_cons_zero, List.set_cons_succ])
      go_cut [77] (fun v77 wc => ∃ (kq : Nat) (x77_28 : Bool), v77 = .bool x77_28 ∧ Aside0 (laws_FnExactUniqueLanes.j1 kq a0 l1 t156 t157 t158 t164 x77_28 = some r) ∧ Aside0 (kq ≤ kj7) ∧ Aside0 (Kd.R (Kd.int .i64) 2 wc w.heap.size (fun k_ => some k_ ≠ (v167 : Value).ownBlock) v159 t156) ∧ Aside0 (Kd.R (Kd.int .i64) 2 wc w.heap.size (fun k_ => some k_ ≠ (v159 : Value).ownBlock) v167 t164) ∧ Aside0 (Below w.heap.size w wc))
      case first =>
       have H := HC29.out
       clear HC29
       by_cases c33 : t174 < 0
       ·
        rw [if_pos c33] at H
        have c33b0 : decide (t174 < 0) = true := decide_eq_true c33
        clear c33
        (first | rw [c33b0] | (simp only [i64_w, i32_w]; rw [c33b0]) | skip)
        have H' := am H; clear H
        go_wp2
        go_meet
        case rel => exact ⟨_, (true), (by first | rfl | (simp; done) | (simp [*]; done)), H', ⟨by have := HJ7.out; first | omega | exact Nat.le_refl _⟩, ⟨by first | exact rst (Kd.R_mono HO_5.out (fun _ hk => hk.2.1)) | exact Kd.R_mono (rst (Kd.R_mono HO_5.out (fun _ hk => hk.2.1))) (by intro k_ hk_; simpa only [ob_eq] using hk_)⟩, ⟨by first | exact rst (Kd.R_mono HO_9.out (fun _ hk => hk.1)) | exact Kd.R_mono (rst (Kd.R_mono HO_9.out (fun _ hk => hk.1))) (by intro k_ hk_; simpa only [ob_eq] using hk_)⟩, ⟨bst HB⟩⟩
       ·
        rw [if_neg c33] at H
        have c33b0 : decide (t174 < 0) = false := decide_eq_false c33
        clear c33
        (first | rw [c33b0] | (simp only [i64_w, i32_w]; rw [c33b0]) | skip)
        replace H := Option.bind_eq_some_iff.mp H
        obtain ⟨t176, A340, H⟩ := H
        replace H : (if t176 = true then (if t165 = t157 then (laws_FnExactUniqueLanes.j1 kj7 a0 l1 t156 t157 t158 t164 (t166 != t158)) else (laws_FnExactUniqueLanes.j1 kj7 a0 l1 t156 t157 t158 t164 true)) else (laws_FnExactUniqueLanes.j1 kj7 a0 l1 t156 t157 t158 t164 true)) = some r := H
        have A34 := am A340
        clear A340
        by_cases c35 : t176 = true
        ·
         subst c35
         have H1 : (if t165 = t157 then (laws_FnExactUniqueLanes.j1 kj7 a0 l1 t156 t157 t158 t164 (t166 != t158)) else (laws_FnExactUniqueLanes.j1 kj7 a0 l1 t156 t157 t158 t164 true)) = some r := by rw [if_pos rfl] at H; exact H
         clear H
         have H := H1
         clear H1
         by_cases c36 : t165 = t157
         ·
          rw [if_pos c36] at H
          have c36b0 : (t165 == t157) = true := beq_iff_eq.mpr c36
          have c36b1 : (t165 != t157) = false := bne_eq_false_iff_eq.mpr c36
          clear c36; have H' := am H; clear H
          obtain ⟨Ao37, co37, eo37⟩ := Kd.R_slice HO_9.out
          subst eo37
          obtain ⟨Ao38, co38, eo38⟩ := Kd.R_slice HO_5.out
          subst eo38
          go_wp2_with (first | (go_at_call 14; (with_reducible refine (laws_eqInt64S.calls kj7 _ _ t164 _ _ t156 true _ ?side1 ?side2 ?side3 ?side4 A34.out).mono ?_); (case side1 => repeat (first | exact (Kd.R_reads' HO_9.out).2.2 | (with_reducible refine Kd.C_alloc ?_ _) | (with_reducible refine Kd.C_drewN ?_ _) | (with_reducible refine Kd.C_drew ?_))); (case side2 => exact (Kd.R_reads' HO_9.out).2.1); (case side3 => repeat (first | exact (Kd.R_reads' HO_5.out).2.2 | (with_reducible refine Kd.C_alloc ?_ _) | (with_reducible refine Kd.C_drewN ?_ _) | (with_reducible refine Kd.C_drew ?_))); (case side4 => exact (Kd.R_reads' HO_5.out).2.1); rintro e w' ⟨rfl, ⟨nd, rfl⟩⟩))
          go_meet
          case rel => exact ⟨_, ((t166 != t158)), (by first | rfl | (simp; done) | (simp [*]; done)), H', ⟨by have := HJ7.out; first | omega | exact Nat.le_refl _⟩, ⟨by first | exact rst (Kd.R_mono HO_5.out (fun _ hk => hk.2.1)) | exact Kd.R_mono (rst (Kd.R_mono HO_5.out (fun _ hk => hk.2.1))) (by intro k_ hk_; simpa only [ob_eq] using hk_)⟩, ⟨by first | exact rst (Kd.R_mono HO_9.out (fun _ hk => hk.1)) | exact Kd.R_mono (rst (Kd.R_mono HO_9.out (fun _ hk => hk.1))) (by intro k_ hk_; simpa only [ob_eq] using hk_)⟩, ⟨bst HB⟩⟩
         ·
          rw [if_neg c36] at H
          have c36b0 : (t165 == t157) = false := beq_eq_false_iff_ne.mpr c36
          have c36b1 : (t165 != t157) = true := bne_iff_ne.mpr c36
          have H' := am H; clear H
          obtain ⟨Ao39, co39, eo39⟩ := Kd.R_slice HO_9.out
          subst eo39
          obtain ⟨Ao40, co40, eo40⟩ := Kd.R_slice HO_5.out
          subst eo40
          go_wp2_with (first | (go_at_call 14; (with_reducible refine (laws_eqInt64S.calls kj7 _ _ t164 _ _ t156 true _ ?side1 ?side2 ?side3 ?side4 A34.out).mono ?_); (case side1 => repeat (first | exact (Kd.R_reads' HO_9.out).2.2 | (with_reducible refine Kd.C_alloc ?_ _) | (with_reducible refine Kd.C_drewN ?_ _) | (with_reducible refine Kd.C_drew ?_))); (case side2 => exact (Kd.R_reads' HO_9.out).2.1); (case side3 => repeat (first | exact (Kd.R_reads' HO_5.out).2.2 | (with_reducible refine Kd.C_alloc ?_ _) | (with_reducible refine Kd.C_drewN ?_ _) | (with_reducible refine Kd.C_drew ?_))); (case side4 => exact (Kd.R_reads' HO_5.out).2.1); rintro e w' ⟨rfl, ⟨nd, rfl⟩⟩))
          go_meet
          case rel => exact ⟨_, (true), (by first | rfl | (simp; done) | (simp [*]; done)), H', ⟨by have := HJ7.out; first | omega | exact Nat.le_refl _⟩, ⟨by first | exact rst (Kd.R_mono HO_5.out (fun _ hk => hk.2.1)) | exact Kd.R_mono (rst (Kd.R_mono HO_5.out (fun _ hk => hk.2.1))) (by intro k_ hk_; simpa only [ob_eq] using hk_)⟩, ⟨by first | exact rst (Kd.R_mono HO_9.out (fun _ hk => hk.1)) | exact Kd.R_mono (rst (Kd.R_mono HO_9.out (fun _ hk => hk.1))) (by intro k_ hk_; simpa only [ob_eq] using hk_)⟩, ⟨bst HB⟩⟩
        ·
         replace c35 := Bool.eq_false_iff.mpr c35
         subst c35
         have H1 : (laws_FnExactUniqueLanes.j1 kj7 a0 l1 t156 t157 t158 t164 true) = some r := by rw [if_neg (show ¬ (false = true) by decide)] at H; exact H
         clear H
         have H := H1
         clear H1; have H' := am H; clear H
         obtain ⟨Ao41, co41, eo41⟩ := Kd.R_slice HO_9.out
         subst eo41
         obtain ⟨Ao42, co42, eo42⟩ := Kd.R_slice HO_5.out
         subst eo42
         go_wp2_with (first | (go_at_call 14; (with_reducible refine (laws_eqInt64S.calls kj7 _ _ t164 _ _ t156 false _ ?side1 ?side2 ?side3 ?side4 A34.out).mono ?_); (case side1 => repeat (first | exact (Kd.R_reads' HO_9.out).2.2 | (with_reducible refine Kd.C_alloc ?_ _) | (with_reducible refine Kd.C_drewN ?_ _) | (with_reducible refine Kd.C_drew ?_))); (case side2 => exact (Kd.R_reads' HO_9.out).2.1); (case side3 => repeat (first | exact (Kd.R_reads' HO_5.out).2.2 | (with_reducible refine Kd.C_alloc ?_ _) | (with_reducible refine Kd.C_drewN ?_ _) | (with_reducible refine Kd.C_drew ?_))); (case side4 => exact (Kd.R_reads' HO_5.out).2.1); rintro e w' ⟨rfl, ⟨nd, rfl⟩⟩))
         go_meet
         case rel => exact ⟨_, (true), (by first | rfl | (simp; done) | (simp [*]; done)), H', ⟨by have := HJ7.out; first | omega | exact Nat.le_refl _⟩, ⟨by first | exact rst (Kd.R_mono HO_5.out (fun _ hk => hk.2.1)) | exact Kd.R_mono (rst (Kd.R_mono HO_5.out (fun _ hk => hk.2.1))) (by intro k_ hk_; simpa only [ob_eq] using hk_)⟩, ⟨by first | exact rst (Kd.R_mono HO_9.out (fun _ hk => hk.1)) | exact Kd.R_mono (rst (Kd.R_mono HO_9.out (fun _ hk => hk.1))) (by intro k_ hk_; simpa only [ob_eq] using hk_)⟩, ⟨bst HB⟩⟩
      case rest =>
       clear HC29; (try clear c1); (try clear c2); (try clear p2); (try clear c3); (try clear c3b0); (try clear c3b1); (try clear c11); (try clear c12); (try clear c13); (try clear c14); (try clear c15); (try clear c16); (try clear c17); (try clear c17b0); (try clear c17b1); (try clear c24); (try clear c27); (try clear c33); (try clear c33b0); (try clear c35); (try clear c36); (try clear c36b0); (try clear c36b1); (try clear p2)
       obtain ⟨kq, x77_28, rfl, HA, HJ28, HO_5, HO_9, HB⟩ := hcut
       cases kq with
       | zero => exact absurd HA.out (by simp [laws_FnExactUniqueLanes.j1])
       | succ kj28 =>
        have H := HA.out
        clear HA
        simp only [laws_FnExactUniqueLanes.j1] at H
        by_cases c43 : x77_28 = true
        ·
         subst c43
         have H1 : (some false) = some r := by rw [if_pos rfl] at H; exact H
         clear H
         have H := H1
         clear H1
         obtain rfl := Option.some.inj H
         go_wp2
         go_ret
         exact ⟨by first | rfl | (simp [errW_none, errW_some] <;> rfl) | (simp [*, errW_none, errW_some] <;> rfl), by repeat (first | (with_reducible first | exact HB.out | apply below_alloc | apply pw_below_drewN | apply below_drew1) | exact HB.out)⟩
        ·
         replace c43 := Bool.eq_false_iff.mpr c43
         subst c43
         have H1 : ((laws_markInt64S.f kj28 t164 1).bind fun bt177 => ((laws_heldInt64S.f kj28 bt177.2 1).bind fun t179 => (if t179 < 0 then (some false) else (if t179 = bt177.1 then ((laws_toInt64S.f kj28 l1).bind fun t180 => ((impl_UniqueLanes.f a0 t180).bind fun bt183 => ((laws_eqInt64S.f kj28 bt183.1 t156).bind fun t188 => (if t188 = true then (if bt183.2.1 = t157 then (laws_FnExactUniqueLanes.j2 kj28 bt177.2 bt177.1 (bt183.2.2 != t158)) else (laws_FnExactUniqueLanes.j2 kj28 bt177.2 bt177.1 true)) else (laws_FnExactUniqueLanes.j2 kj28 bt177.2 bt177.1 true))))) else (some false))))) = some r := by rw [if_neg (show ¬ (false = true) by decide)] at H; exact H
         clear H
         have H := H1
         clear H1
         replace H := Option.bind_eq_some_iff.mp H
         obtain ⟨⟨t177, t178⟩, A440, H⟩ := H
         replace H : ((laws_heldInt64S.f kj28 t178 1).bind fun t179 => (if t179 < 0 then (some false) else (if t179 = t177 then ((laws_toInt64S.f kj28 l1).bind fun t180 => ((impl_UniqueLanes.f a0 t180).bind fun bt183 => ((laws_eqInt64S.f kj28 bt183.1 t156).bind fun t188 => (if t188 = true then (if bt183.2.1 = t157 then (laws_FnExactUniqueLanes.j2 kj28 t178 t177 (bt183.2.2 != t158)) else (laws_FnExactUniqueLanes.j2 kj28 t178 t177 true)) else (laws_FnExactUniqueLanes.j2 kj28 t178 t177 true))))) else (some false)))) = some r := H
         have A44 := am A440
         clear A440
         replace H := Option.bind_eq_some_iff.mp H
         obtain ⟨t179, A450, H⟩ := H
         replace H : (if t179 < 0 then (some false) else (if t179 = t177 then ((laws_toInt64S.f kj28 l1).bind fun t180 => ((impl_UniqueLanes.f a0 t180).bind fun bt183 => ((laws_eqInt64S.f kj28 bt183.1 t156).bind fun t188 => (if t188 = true then (if bt183.2.1 = t157 then (laws_FnExactUniqueLanes.j2 kj28 t178 t177 (bt183.2.2 != t158)) else (laws_FnExactUniqueLanes.j2 kj28 t178 t177 true)) else (laws_FnExactUniqueLanes.j2 kj28 t178 t177 true))))) else (some false))) = some r := H
         have A45 := am A450
         clear A450
         by_cases c46 : t179 < 0
         ·
          rw [if_pos c46] at H
          have c46b0 : decide (t179 < 0) = true := decide_eq_true c46
          clear c46
          obtain rfl := Option.some.inj H
          obtain ⟨Ao47, co47, eo47⟩ := Kd.R_slice HO_9.out
          subst eo47
          go_wp2_with (first | ((with_reducible refine gate_callee (f := 15) rfl ?_); refine goesL_ (some 80) rfl rfl Try.func15 (by kernel_rfl) rfl #[.slice Ao47 t164.length co47, .int .i64 1] rfl (by (try simp only [List.map_toArray, List.map_cons, List.map_nil]); first | done | rfl | (simp only [List.length_drop, List.length_take]; rfl)) ?_; (with_reducible refine (laws_markInt64S.calls kj28 (fun k_ => some k_ = (.slice Ao47 t164.length co47 : Value).ownBlock) (.slice Ao47 t164.length co47) t164 1 t177 t178 w _ ?side1 ?side2 A44.out).mono ?_); (case side1 => repeat (first | (with_reducible first | exact HB.out | apply below_alloc | apply pw_below_drewN | apply below_drew1) | exact HB.out)); (case side2 => exact Kd.R_tight rfl HO_9.out); rintro e w48 ⟨rfl, hy0, hb, hkp⟩; refine ⟨_, rfl, ?_⟩; have n0_ := am (Kd.R_mono (ok' := fun k_ => some k_ ≠ (.slice Ao47 t164.length co47 : Value).ownBlock) (Kd.R_keptB (HO_5.out) hkp (fun k_ hk_ hs_ => (hk_) hs_)) (fun k_ hk_ => hk_.1)); have n1_ := am (Kd.R_reok rfl hy0 (fun k_ e_ => HO_9.out.1 k_ e_)); have n2_ := am (hb); clear HO_5; clear HO_9; clear HB; have HO_5 := n0_; have HO_9 := n1_; have HB := n2_; clear n0_ n1_ n2_; (try clear hb); (try clear hkp); (try clear hy0)) | ((with_reducible refine gate_callee (f := 16) rfl ?_); refine goesL_ (some 83) rfl rfl Try.func16 (by kernel_rfl) rfl #[.slice Ao47 t178.length co47, .int .i64 1] rfl (by (try simp only [List.map_toArray, List.map_cons, List.map_nil]); first | done | (rw [show t178.length = t164.length from (Kd.R_reads' HO_9.out).1.symm] <;> rfl) | rfl | (simp only [List.length_drop, List.length_take]; rfl)) ?_; (with_reducible refine (laws_heldInt64S.calls kj28 _ _ t178 1 t179 _ ?side1 ?side2 A45.out).mono ?_); (case side1 => repeat (first | exact (Kd.R_reads' HO_9.out).2.2 | (with_reducible refine Kd.C_alloc ?_ _) | (with_reducible refine Kd.C_drewN ?_ _) | (with_reducible refine Kd.C_drew ?_))); (case side2 => rw [show t178.length = t164.length from (Kd.R_reads' HO_9.out).1.symm]; exact (Kd.R_reads' HO_9.out).2.1); rintro e w' ⟨rfl, ⟨nd, rfl⟩⟩; refine ⟨_, rfl, ?_⟩))
          go_ret
          exact ⟨by first | rfl | (simp [errW_none, errW_some] <;> rfl) | (simp [*, errW_none, errW_some] <;> rfl), by repeat (first | (with_reducible first | exact HB.out | apply below_alloc | apply pw_below_drewN | apply below_drew1) | exact HB.out)⟩
         ·
          rw [if_neg c46] at H
          have c46b0 : decide (t179 < 0) = false := decide_eq_false c46
          clear c46
          by_cases c49 : t179 = t177
          ·
           rw [if_pos c49] at H
           have c49b0 : (t179 == t177) = true := beq_iff_eq.mpr c49
           have c49b1 : (t179 != t177) = false := bne_eq_false_iff_eq.mpr c49
           clear c49
           replace H := Option.bind_eq_some_iff.mp H
           obtain ⟨t180, A500, H⟩ := H
           replace H : ((impl_UniqueLanes.f a0 t180).bind fun bt183 => ((laws_eqInt64S.f kj28 bt183.1 t156).bind fun t188 => (if t188 = true then (if bt183.2.1 = t157 then (laws_FnExactUniqueLanes.j2 kj28 t178 t177 (bt183.2.2 != t158)) else (laws_FnExactUniqueLanes.j2 kj28 t178 t177 true)) else (laws_FnExactUniqueLanes.j2 kj28 t178 t177 true)))) = some r := H
           have A50 := am A500
           clear A500
           replace H := Option.bind_eq_some_iff.mp H
           obtain ⟨⟨t183, t184, t185⟩, A510, H⟩ := H
           replace H : ((laws_eqInt64S.f kj28 t183 t156).bind fun t188 => (if t188 = true then (if t184 = t157 then (laws_FnExactUniqueLanes.j2 kj28 t178 t177 (t185 != t158)) else (laws_FnExactUniqueLanes.j2 kj28 t178 t177 true)) else (laws_FnExactUniqueLanes.j2 kj28 t178 t177 true))) = some r := H
           have A51 := am A510
           clear A510
           have HC52 := am H
           clear H
           obtain ⟨Ao53, co53, eo53⟩ := Kd.R_slice HO_9.out
           subst eo53
           go_upto_region 23 with (first | ((with_reducible refine gate_callee (f := 15) rfl ?_); refine goesL_ (some 80) rfl rfl Try.func15 (by kernel_rfl) rfl #[.slice Ao53 t164.length co53, .int .i64 1] rfl (by (try simp only [List.map_toArray, List.map_cons, List.map_nil]); first | done | rfl | (simp only [List.length_drop, List.length_take]; rfl)) ?_; (with_reducible refine (laws_markInt64S.calls kj28 (fun k_ => some k_ = (.slice Ao53 t164.length co53 : Value).ownBlock) (.slice Ao53 t164.length co53) t164 1 t177 t178 w _ ?side1 ?side2 A44.out).mono ?_); (case side1 => repeat (first | (with_reducible first | exact HB.out | apply below_alloc | apply pw_below_drewN | apply below_drew1) | exact HB.out)); (case side2 => exact Kd.R_tight rfl HO_9.out); rintro e w54 ⟨rfl, hy0, hb, hkp⟩; refine ⟨_, rfl, ?_⟩; have n0_ := am (Kd.R_mono (ok' := fun k_ => some k_ ≠ (.slice Ao53 t164.length co53 : Value).ownBlock) (Kd.R_keptB (HO_5.out) hkp (fun k_ hk_ hs_ => (hk_) hs_)) (fun k_ hk_ => hk_.1)); have n1_ := am (Kd.R_reok rfl hy0 (fun k_ e_ => HO_9.out.1 k_ e_)); have n2_ := am (hb); clear HO_5; clear HO_9; clear HB; have HO_5 := n0_; have HO_9 := n1_; have HB := n2_; clear n0_ n1_ n2_; (try clear hb); (try clear hkp); (try clear hy0)) | ((with_reducible refine gate_callee (f := 16) rfl ?_); refine goesL_ (some 83) rfl rfl Try.func16 (by kernel_rfl) rfl #[.slice Ao53 t178.length co53, .int .i64 1] rfl (by (try simp only [List.map_toArray, List.map_cons, List.map_nil]); first | done | (rw [show t178.length = t164.length from (Kd.R_reads' HO_9.out).1.symm] <;> rfl) | rfl | (simp only [List.length_drop, List.length_take]; rfl)) ?_; (with_reducible refine (laws_heldInt64S.calls kj28 _ _ t178 1 t179 _ ?side1 ?side2 A45.out).mono ?_); (case side1 => repeat (first | exact (Kd.R_reads' HO_9.out).2.2 | (with_reducible refine Kd.C_alloc ?_ _) | (with_reducible refine Kd.C_drewN ?_ _) | (with_reducible refine Kd.C_drew ?_))); (case side2 => rw [show t178.length = t164.length from (Kd.R_reads' HO_9.out).1.symm]; exact (Kd.R_reads' HO_9.out).2.1); rintro e w' ⟨rfl, ⟨nd, rfl⟩⟩; refine ⟨_, rfl, ?_⟩) | ((with_reducible refine gate_callee (f := 12) rfl ?_); refine goesL_ (some 92) rfl rfl Try.func12 (by kernel_rfl) rfl #[.slice A1 l1.length c1] rfl (by (try simp only [List.map_toArray, List.map_cons, List.map_nil]); first | done | rfl | (simp only [List.length_drop, List.length_take]; rfl)) ?_; (with_reducible refine (laws_toInt64S.calls kj28 _ _ l1 t180 _ ?side1 ?side2 A50.out).mono ?_); (case side1 => repeat (first | exact (Kd.C_below HR1.out (bst HB)) | (with_reducible refine Kd.C_alloc ?_ _) | (with_reducible refine Kd.C_drewN ?_ _) | (with_reducible refine Kd.C_drew ?_))); (case side2 => exact HC1.out); rintro e w55 ⟨v181, rfl, ho0, hb⟩; refine ⟨_, rfl, ?_⟩; have n0_ := am (Kd.R_elder' (rst HO_5.out) (Kd.R_base ho0) hb); have n1_ := am (Kd.R_elder' (rst HO_9.out) (Kd.R_base ho0) hb); have n2_ := am (Kd.R_lower (Kd.R_new' (Kd.R_new' ho0 (Kd.R_lt (rst HO_5.out))) (Kd.R_lt (rst HO_9.out))) (below_size (bst HB))); have n3_ := am (below_step (bst HB) hb); clear HO_5; clear HO_9; clear HB; have HO_5 := n0_; have HO_9 := n1_; have HO182 := n2_; have HB := n3_; clear n0_ n1_ n2_ n3_; (try clear hb); (try clear hb2); (try clear hk); (try clear hi); (try clear ho0); obtain ⟨Ao56, co56, eo56⟩ := Kd.R_slice HO182.out; subst eo56) | ((with_reducible refine gate_callee (f := 13) rfl ?_); refine goesL_ (some 93) rfl rfl Try.func13 (by kernel_rfl) rfl #[.int .i64 a0, .slice Ao56 t180.length co56] rfl (by (try simp only [List.map_toArray, List.map_cons, List.map_nil]); first | done | rfl | (simp only [List.length_drop, List.length_take]; rfl)) ?_; (with_reducible refine (impl_UniqueLanes.calls a0 _ _ t180 t183 t184 t185 _ ?side1 ?side2 A51.out).mono ?_); (case side1 => repeat (first | exact (Kd.R_reads' HO182.out).2.2 | (with_reducible refine Kd.C_alloc ?_ _) | (with_reducible refine Kd.C_drewN ?_ _) | (with_reducible refine Kd.C_drew ?_))); (case side2 => exact (Kd.R_reads' HO182.out).2.1); rintro e w57 ⟨v186, rfl, ho0, hb⟩; refine ⟨_, rfl, ?_⟩; have n0_ := am (Kd.R_elder' (rst HO_5.out) (Kd.R_base ho0) hb); have n1_ := am (Kd.R_elder' (rst HO_9.out) (Kd.R_base ho0) hb); have n2_ := am (Kd.R_elder' (rst HO182.out) (Kd.R_base ho0) hb); have n3_ := am (Kd.R_lower (Kd.R_new' (Kd.R_new' (Kd.R_new' ho0 (Kd.R_lt (rst HO_5.out))) (Kd.R_lt (rst HO_9.out))) (Kd.R_lt (rst HO182.out))) (below_size (bst HB))); have n4_ := am (below_step (bst HB) hb); clear HO_5; clear HO_9; clear HO182; clear HB; have HO_5 := n0_; have HO_9 := n1_; have HO182 := n2_; have HO187 := n3_; have HB := n4_; clear n0_ n1_ n2_ n3_ n4_; (try clear hb); (try clear hb2); (try clear hk); (try clear hi); (try clear ho0)))
           (try simp only [Act.put, List.setIfInBounds_toArray, List.set_cons_zero, List.set_cons_succ])
           go_cut [110] (fun v110 wc => ∃ (kq : Nat) (x110_51 : Bool), v110 = .bool x110_51 ∧ Aside0 (laws_FnExactUniqueLanes.j2 kq t178 t177 x110_51 = some r) ∧ Aside0 (kq ≤ kj28) ∧ Aside0 (Kd.R (Kd.int .i64) 2 wc w.heap.size (fun _ => True) (.slice Ao53 t164.length co53) t178) ∧ Aside0 (Below w.heap.size w wc))
           case first =>
            have H := HC52.out
            clear HC52
            replace H := Option.bind_eq_some_iff.mp H
            obtain ⟨t188, A580, H⟩ := H
            replace H : (if t188 = true then (if t184 = t157 then (laws_FnExactUniqueLanes.j2 kj28 t178 t177 (t185 != t158)) else (laws_FnExactUniqueLanes.j2 kj28 t178 t177 true)) else (laws_FnExactUniqueLanes.j2 kj28 t178 t177 true)) = some r := H
            have A58 := am A580
            clear A580
            by_cases c59 : t188 = true
            ·
             subst c59
             have H1 : (if t184 = t157 then (laws_FnExactUniqueLanes.j2 kj28 t178 t177 (t185 != t158)) else (laws_FnExactUniqueLanes.j2 kj28 t178 t177 true)) = some r := by rw [if_pos rfl] at H; exact H
             clear H
             have H := H1
             clear H1
             by_cases c60 : t184 = t157
             ·
              rw [if_pos c60] at H
              have c60b0 : (t184 == t157) = true := beq_iff_eq.mpr c60
              have c60b1 : (t184 != t157) = false := bne_eq_false_iff_eq.mpr c60
              clear c60
              (first | rw [c60b0] | (simp only [i64_w, i32_w]; rw [c60b0]) | skip)
              have H' := am H; clear H
              obtain ⟨Ao61, co61, eo61⟩ := Kd.R_slice HO187.out
              subst eo61
              obtain ⟨Ao62, co62, eo62⟩ := Kd.R_slice HO_5.out
              subst eo62
              go_wp2_with (first | ((with_reducible refine gate_callee (f := 14) rfl ?_); refine goesL_ (some 99) rfl rfl Try.func14 (by kernel_rfl) rfl #[.slice Ao61 t183.length co61, .slice Ao62 t156.length co62] rfl (by (try simp only [List.map_toArray, List.map_cons, List.map_nil]); first | done | rfl | (simp only [List.length_drop, List.length_take]; rfl)) ?_; (with_reducible refine (laws_eqInt64S.calls kj28 _ _ t183 _ _ t156 true _ ?side1 ?side2 ?side3 ?side4 A58.out).mono ?_); (case side1 => repeat (first | exact (Kd.R_reads' HO187.out).2.2 | (with_reducible refine Kd.C_alloc ?_ _) | (with_reducible refine Kd.C_drewN ?_ _) | (with_reducible refine Kd.C_drew ?_))); (case side2 => exact (Kd.R_reads' HO187.out).2.1); (case side3 => repeat (first | exact (Kd.R_reads' HO_5.out).2.2 | (with_reducible refine Kd.C_alloc ?_ _) | (with_reducible refine Kd.C_drewN ?_ _) | (with_reducible refine Kd.C_drew ?_))); (case side4 => exact (Kd.R_reads' HO_5.out).2.1); rintro e w' ⟨rfl, ⟨nd, rfl⟩⟩; refine ⟨_, rfl, ?_⟩))
              go_meet
              case rel => exact ⟨_, ((t185 != t158)), (by first | rfl | (simp; done) | (simp [*]; done)), H', ⟨by have := HJ7.out; have := HJ28.out; first | omega | exact Nat.le_refl _⟩, ⟨by (with_reducible repeat (first | apply Kd.R_alloc | apply Kd.R_drewN | apply Kd.R_drew)); exact Kd.R_mono HO_9.out (fun _ hk => trivial)⟩, ⟨bst HB⟩⟩
             ·
              rw [if_neg c60] at H
              have c60b0 : (t184 == t157) = false := beq_eq_false_iff_ne.mpr c60
              have c60b1 : (t184 != t157) = true := bne_iff_ne.mpr c60
              (first | rw [c60b0] | (simp only [i64_w, i32_w]; rw [c60b0]) | skip)
              have H' := am H; clear H
              obtain ⟨Ao63, co63, eo63⟩ := Kd.R_slice HO187.out
              subst eo63
              obtain ⟨Ao64, co64, eo64⟩ := Kd.R_slice HO_5.out
              subst eo64
              go_wp2_with (first | ((with_reducible refine gate_callee (f := 14) rfl ?_); refine goesL_ (some 99) rfl rfl Try.func14 (by kernel_rfl) rfl #[.slice Ao63 t183.length co63, .slice Ao64 t156.length co64] rfl (by (try simp only [List.map_toArray, List.map_cons, List.map_nil]); first | done | rfl | (simp only [List.length_drop, List.length_take]; rfl)) ?_; (with_reducible refine (laws_eqInt64S.calls kj28 _ _ t183 _ _ t156 true _ ?side1 ?side2 ?side3 ?side4 A58.out).mono ?_); (case side1 => repeat (first | exact (Kd.R_reads' HO187.out).2.2 | (with_reducible refine Kd.C_alloc ?_ _) | (with_reducible refine Kd.C_drewN ?_ _) | (with_reducible refine Kd.C_drew ?_))); (case side2 => exact (Kd.R_reads' HO187.out).2.1); (case side3 => repeat (first | exact (Kd.R_reads' HO_5.out).2.2 | (with_reducible refine Kd.C_alloc ?_ _) | (with_reducible refine Kd.C_drewN ?_ _) | (with_reducible refine Kd.C_drew ?_))); (case side4 => exact (Kd.R_reads' HO_5.out).2.1); rintro e w' ⟨rfl, ⟨nd, rfl⟩⟩; refine ⟨_, rfl, ?_⟩))
              go_meet
              case rel => exact ⟨_, (true), (by first | rfl | (simp; done) | (simp [*]; done)), H', ⟨by have := HJ7.out; have := HJ28.out; first | omega | exact Nat.le_refl _⟩, ⟨by (with_reducible repeat (first | apply Kd.R_alloc | apply Kd.R_drewN | apply Kd.R_drew)); exact Kd.R_mono HO_9.out (fun _ hk => trivial)⟩, ⟨bst HB⟩⟩
            ·
             replace c59 := Bool.eq_false_iff.mpr c59
             subst c59
             have H1 : (laws_FnExactUniqueLanes.j2 kj28 t178 t177 true) = some r := by rw [if_neg (show ¬ (false = true) by decide)] at H; exact H
             clear H
             have H := H1
             clear H1; have H' := am H; clear H
             obtain ⟨Ao65, co65, eo65⟩ := Kd.R_slice HO187.out
             subst eo65
             obtain ⟨Ao66, co66, eo66⟩ := Kd.R_slice HO_5.out
             subst eo66
             go_wp2_with (first | ((with_reducible refine gate_callee (f := 14) rfl ?_); refine goesL_ (some 99) rfl rfl Try.func14 (by kernel_rfl) rfl #[.slice Ao65 t183.length co65, .slice Ao66 t156.length co66] rfl (by (try simp only [List.map_toArray, List.map_cons, List.map_nil]); first | done | rfl | (simp only [List.length_drop, List.length_take]; rfl)) ?_; (with_reducible refine (laws_eqInt64S.calls kj28 _ _ t183 _ _ t156 false _ ?side1 ?side2 ?side3 ?side4 A58.out).mono ?_); (case side1 => repeat (first | exact (Kd.R_reads' HO187.out).2.2 | (with_reducible refine Kd.C_alloc ?_ _) | (with_reducible refine Kd.C_drewN ?_ _) | (with_reducible refine Kd.C_drew ?_))); (case side2 => exact (Kd.R_reads' HO187.out).2.1); (case side3 => repeat (first | exact (Kd.R_reads' HO_5.out).2.2 | (with_reducible refine Kd.C_alloc ?_ _) | (with_reducible refine Kd.C_drewN ?_ _) | (with_reducible refine Kd.C_drew ?_))); (case side4 => exact (Kd.R_reads' HO_5.out).2.1); rintro e w' ⟨rfl, ⟨nd, rfl⟩⟩; refine ⟨_, rfl, ?_⟩))
             go_meet
             case rel => exact ⟨_, (true), (by first | rfl | (simp; done) | (simp [*]; done)), H', ⟨by have := HJ7.out; have := HJ28.out; first | omega | exact Nat.le_refl _⟩, ⟨by (with_reducible repeat (first | apply Kd.R_alloc | apply Kd.R_drewN | apply Kd.R_drew)); exact Kd.R_mono HO_9.out (fun _ hk => trivial)⟩, ⟨bst HB⟩⟩
           case rest =>
            clear HC52; (try clear c1); (try clear c2); (try clear p2); (try clear c3); (try clear c3b0); (try clear c3b1); (try clear c4); (try clear c5); (try clear c6); (try clear c11); (try clear c12); (try clear c13); (try clear c14); (try clear c15); (try clear c16); (try clear c17); (try clear c17b0); (try clear c17b1); (try clear c24); (try clear c27); (try clear c33); (try clear c33b0); (try clear c35); (try clear c36); (try clear c36b0); (try clear c36b1); (try clear c43); (try clear c46); (try clear c46b0); (try clear c49); (try clear c49b0); (try clear c49b1); (try clear c59); (try clear c60); (try clear c60b0); (try clear c60b1); (try clear p2)
            obtain ⟨kq, x110_51, rfl, HA, HJ51, HO_9, HB⟩ := hcut
            have hl9_51 := (Kd.R_reads' HO_9.out).1
            rw [hl9_51] at HO_9
            (try simp only [hl9_51])
            cases kq with
            | zero => exact absurd HA.out (by simp [laws_FnExactUniqueLanes.j2])
            | succ kj51 =>
             have H := HA.out
             clear HA
             simp only [laws_FnExactUniqueLanes.j2] at H
             by_cases c67 : x110_51 = true
             ·
              subst c67
              have H1 : (some false) = some r := by rw [if_pos rfl] at H; exact H
              clear H
              have H := H1
              clear H1
              obtain rfl := Option.some.inj H
              go_wp2
              go_ret
              exact ⟨by first | rfl | (simp [errW_none, errW_some] <;> rfl) | (simp [*, errW_none, errW_some] <;> rfl), by repeat (first | (with_reducible first | exact HB.out | apply below_alloc | apply pw_below_drewN | apply below_drew1) | exact HB.out)⟩
             ·
              replace c67 := Bool.eq_false_iff.mpr c67
              subst c67
              have H1 : ((laws_heldInt64S.f kj51 t178 1).bind fun t189 => (if t189 < 0 then (some false) else (if t189 = t177 then (some true) else (some false)))) = some r := by rw [if_neg (show ¬ (false = true) by decide)] at H; exact H
              clear H
              have H := H1
              clear H1
              replace H := Option.bind_eq_some_iff.mp H
              obtain ⟨t189, A680, H⟩ := H
              replace H : (if t189 < 0 then (some false) else (if t189 = t177 then (some true) else (some false))) = some r := H
              have A68 := am A680
              clear A680
              by_cases c69 : t189 < 0
              ·
               rw [if_pos c69] at H
               have c69b0 : decide (t189 < 0) = true := decide_eq_true c69
               clear c69
               obtain rfl := Option.some.inj H
               go_wp2_with (first | ((with_reducible refine gate_callee (f := 16) rfl ?_); refine goesL_ (some 113) rfl rfl Try.func16 (by kernel_rfl) rfl #[.slice Ao53 t178.length co53, .int .i64 1] rfl (by (try simp only [List.map_toArray, List.map_cons, List.map_nil]); first | done | rfl | (simp only [List.length_drop, List.length_take]; rfl)) ?_; (with_reducible refine (laws_heldInt64S.calls kj51 _ _ t178 1 t189 _ ?side1 ?side2 A68.out).mono ?_); (case side1 => repeat (first | exact (Kd.R_reads' HO_9.out).2.2 | (with_reducible refine Kd.C_alloc ?_ _) | (with_reducible refine Kd.C_drewN ?_ _) | (with_reducible refine Kd.C_drew ?_))); (case side2 => exact (Kd.R_reads' HO_9.out).2.1); rintro e w' ⟨rfl, ⟨nd, rfl⟩⟩; refine ⟨_, rfl, ?_⟩))
               go_ret
               exact ⟨by first | rfl | (simp [errW_none, errW_some] <;> rfl) | (simp [*, errW_none, errW_some] <;> rfl), by repeat (first | (with_reducible first | exact HB.out | apply below_alloc | apply pw_below_drewN | apply below_drew1) | exact HB.out)⟩
              ·
               rw [if_neg c69] at H
               have c69b0 : decide (t189 < 0) = false := decide_eq_false c69
               clear c69
               by_cases c70 : t189 = t177
               ·
                rw [if_pos c70] at H
                have c70b0 : (t189 == t177) = true := beq_iff_eq.mpr c70
                have c70b1 : (t189 != t177) = false := bne_eq_false_iff_eq.mpr c70
                clear c70
                obtain rfl := Option.some.inj H
                go_wp2_with (first | ((with_reducible refine gate_callee (f := 16) rfl ?_); refine goesL_ (some 113) rfl rfl Try.func16 (by kernel_rfl) rfl #[.slice Ao53 t178.length co53, .int .i64 1] rfl (by (try simp only [List.map_toArray, List.map_cons, List.map_nil]); first | done | rfl | (simp only [List.length_drop, List.length_take]; rfl)) ?_; (with_reducible refine (laws_heldInt64S.calls kj51 _ _ t178 1 t189 _ ?side1 ?side2 A68.out).mono ?_); (case side1 => repeat (first | exact (Kd.R_reads' HO_9.out).2.2 | (with_reducible refine Kd.C_alloc ?_ _) | (with_reducible refine Kd.C_drewN ?_ _) | (with_reducible refine Kd.C_drew ?_))); (case side2 => exact (Kd.R_reads' HO_9.out).2.1); rintro e w' ⟨rfl, ⟨nd, rfl⟩⟩; refine ⟨_, rfl, ?_⟩))
                go_ret
                exact ⟨by first | rfl | (simp [errW_none, errW_some] <;> rfl) | (simp [*, errW_none, errW_some] <;> rfl), by repeat (first | (with_reducible first | exact HB.out | apply below_alloc | apply pw_below_drewN | apply below_drew1) | exact HB.out)⟩
               ·
                rw [if_neg c70] at H
                have c70b0 : (t189 == t177) = false := beq_eq_false_iff_ne.mpr c70
                have c70b1 : (t189 != t177) = true := bne_iff_ne.mpr c70
                obtain rfl := Option.some.inj H
                go_wp2_with (first | ((with_reducible refine gate_callee (f := 16) rfl ?_); refine goesL_ (some 113) rfl rfl Try.func16 (by kernel_rfl) rfl #[.slice Ao53 t178.length co53, .int .i64 1] rfl (by (try simp only [List.map_toArray, List.map_cons, List.map_nil]); first | done | rfl | (simp only [List.length_drop, List.length_take]; rfl)) ?_; (with_reducible refine (laws_heldInt64S.calls kj51 _ _ t178 1 t189 _ ?side1 ?side2 A68.out).mono ?_); (case side1 => repeat (first | exact (Kd.R_reads' HO_9.out).2.2 | (with_reducible refine Kd.C_alloc ?_ _) | (with_reducible refine Kd.C_drewN ?_ _) | (with_reducible refine Kd.C_drew ?_))); (case side2 => exact (Kd.R_reads' HO_9.out).2.1); rintro e w' ⟨rfl, ⟨nd, rfl⟩⟩; refine ⟨_, rfl, ?_⟩))
                go_ret
                exact ⟨by first | rfl | (simp [errW_none, errW_some] <;> rfl) | (simp [*, errW_none, errW_some] <;> rfl), by repeat (first | (with_reducible first | exact HB.out | apply below_alloc | apply pw_below_drewN | apply below_drew1) | exact HB.out)⟩
          ·
           rw [if_neg c49] at H
           have c49b0 : (t179 == t177) = false := beq_eq_false_iff_ne.mpr c49
           have c49b1 : (t179 != t177) = true := bne_iff_ne.mpr c49
           obtain rfl := Option.some.inj H
           obtain ⟨Ao71, co71, eo71⟩ := Kd.R_slice HO_9.out
           subst eo71
           go_wp2_with (first | ((with_reducible refine gate_callee (f := 15) rfl ?_); refine goesL_ (some 80) rfl rfl Try.func15 (by kernel_rfl) rfl #[.slice Ao71 t164.length co71, .int .i64 1] rfl (by (try simp only [List.map_toArray, List.map_cons, List.map_nil]); first | done | rfl | (simp only [List.length_drop, List.length_take]; rfl)) ?_; (with_reducible refine (laws_markInt64S.calls kj28 (fun k_ => some k_ = (.slice Ao71 t164.length co71 : Value).ownBlock) (.slice Ao71 t164.length co71) t164 1 t177 t178 w _ ?side1 ?side2 A44.out).mono ?_); (case side1 => repeat (first | (with_reducible first | exact HB.out | apply below_alloc | apply pw_below_drewN | apply below_drew1) | exact HB.out)); (case side2 => exact Kd.R_tight rfl HO_9.out); rintro e w72 ⟨rfl, hy0, hb, hkp⟩; refine ⟨_, rfl, ?_⟩; have n0_ := am (Kd.R_mono (ok' := fun k_ => some k_ ≠ (.slice Ao71 t164.length co71 : Value).ownBlock) (Kd.R_keptB (HO_5.out) hkp (fun k_ hk_ hs_ => (hk_) hs_)) (fun k_ hk_ => hk_.1)); have n1_ := am (Kd.R_reok rfl hy0 (fun k_ e_ => HO_9.out.1 k_ e_)); have n2_ := am (hb); clear HO_5; clear HO_9; clear HB; have HO_5 := n0_; have HO_9 := n1_; have HB := n2_; clear n0_ n1_ n2_; (try clear hb); (try clear hkp); (try clear hy0)) | ((with_reducible refine gate_callee (f := 16) rfl ?_); refine goesL_ (some 83) rfl rfl Try.func16 (by kernel_rfl) rfl #[.slice Ao71 t178.length co71, .int .i64 1] rfl (by (try simp only [List.map_toArray, List.map_cons, List.map_nil]); first | done | (rw [show t178.length = t164.length from (Kd.R_reads' HO_9.out).1.symm] <;> rfl) | rfl | (simp only [List.length_drop, List.length_take]; rfl)) ?_; (with_reducible refine (laws_heldInt64S.calls kj28 _ _ t178 1 t179 _ ?side1 ?side2 A45.out).mono ?_); (case side1 => repeat (first | exact (Kd.R_reads' HO_9.out).2.2 | (with_reducible refine Kd.C_alloc ?_ _) | (with_reducible refine Kd.C_drewN ?_ _) | (with_reducible refine Kd.C_drew ?_))); (case side2 => rw [show t178.length = t164.length from (Kd.R_reads' HO_9.out).1.symm]; exact (Kd.R_reads' HO_9.out).2.1); rintro e w' ⟨rfl, ⟨nd, rfl⟩⟩; refine ⟨_, rfl, ?_⟩))
           go_ret
           exact ⟨by first | rfl | (simp [errW_none, errW_some] <;> rfl) | (simp [*, errW_none, errW_some] <;> rfl), by repeat (first | (with_reducible first | exact HB.out | apply below_alloc | apply pw_below_drewN | apply below_drew1) | exact HB.out)⟩
     ·
      replace c27 := Bool.eq_false_iff.mpr c27
      subst c27
      have H1 : (some false) = some r := by rw [if_neg (show ¬ (false = true) by decide)] at H; exact H
      clear H
      have H := H1
      clear H1
      obtain rfl := Option.some.inj H
      go_wp2_with (first | ((with_reducible refine gate_callee (f := 12) rfl ?_); refine goesL_ (some 54) rfl rfl Try.func12 (by kernel_rfl) rfl #[.slice A1 l1.length c1] rfl (by (try simp only [List.map_toArray, List.map_cons, List.map_nil]); first | done | rfl | (simp only [List.length_drop, List.length_take]; rfl)) ?_; (with_reducible refine (laws_toInt64S.calls kj7 _ _ l1 t170 _ ?side1 ?side2 A25.out).mono ?_); (case side1 => repeat (first | exact (Kd.C_below HR1.out HB.out) | (with_reducible refine Kd.C_alloc ?_ _) | (with_reducible refine Kd.C_drewN ?_ _) | (with_reducible refine Kd.C_drew ?_))); (case side2 => exact HC1.out); rintro e w73 ⟨v171, rfl, ho0, hb⟩; refine ⟨_, rfl, ?_⟩; have n0_ := am (Kd.R_elder' (rst HO_5.out) (Kd.R_base ho0) hb); have n1_ := am (Kd.R_elder' (rst HO_8.out) (Kd.R_base ho0) hb); have n2_ := am (Kd.R_elder' (rst HO_9.out) (Kd.R_base ho0) hb); have n3_ := am (Kd.R_lower (Kd.R_new' (Kd.R_new' (Kd.R_new' ho0 (Kd.R_lt (rst HO_5.out))) (Kd.R_lt (rst HO_8.out))) (Kd.R_lt (rst HO_9.out))) (below_size (bst HB))); have n4_ := am (below_step (bst HB) hb); clear HO_5; clear HO_8; clear HO_9; clear HB; have HO_5 := n0_; have HO_8 := n1_; have HO_9 := n2_; have HO172 := n3_; have HB := n4_; clear n0_ n1_ n2_ n3_ n4_; (try clear hb); (try clear hb2); (try clear hk); (try clear hi); (try clear ho0); obtain ⟨Ao74, co74, eo74⟩ := Kd.R_slice HO172.out; subst eo74) | ((with_reducible refine gate_callee (f := 14) rfl ?_); refine goesL_ (some 55) rfl rfl Try.func14 (by kernel_rfl) rfl #[.slice Ao13 t161.length co13, .slice Ao74 t170.length co74] rfl (by (try simp only [List.map_toArray, List.map_cons, List.map_nil]); first | done | rfl | (simp only [List.length_drop, List.length_take]; rfl)) ?_; (with_reducible refine (laws_eqInt64S.calls kj7 _ _ t161 _ _ t170 false _ ?side1 ?side2 ?side3 ?side4 A26.out).mono ?_); (case side1 => repeat (first | exact (Kd.R_reads' HO_8.out).2.2 | (with_reducible refine Kd.C_alloc ?_ _) | (with_reducible refine Kd.C_drewN ?_ _) | (with_reducible refine Kd.C_drew ?_))); (case side2 => exact (Kd.R_reads' HO_8.out).2.1); (case side3 => repeat (first | exact (Kd.R_reads' HO172.out).2.2 | (with_reducible refine Kd.C_alloc ?_ _) | (with_reducible refine Kd.C_drewN ?_ _) | (with_reducible refine Kd.C_drew ?_))); (case side4 => exact (Kd.R_reads' HO172.out).2.1); rintro e w' ⟨rfl, ⟨nd, rfl⟩⟩; refine ⟨_, rfl, ?_⟩))
      go_ret
      exact ⟨by first | rfl | (simp [errW_none, errW_some] <;> rfl) | (simp [*, errW_none, errW_some] <;> rfl), by repeat (first | (with_reducible first | exact HB.out | apply below_alloc | apply pw_below_drewN | apply below_drew1) | exact HB.out)⟩
end Go.Proofs.Ytfpcfaapoeeipaa.P
