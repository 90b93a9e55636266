/- Contracts of functions of the given program, written by a program of this session out of the translation: each says that a call of the function does what the Lean function of its name says. -/
import Derived.Test.YtfpcfaapoeeipaaVcy0
import Derived.Test.YtfpcfaapoeeipaaVcp0
import Derived.Test.YtfpcfaapoeeipaaVcp1
import Derived.Test.YtfpcfaapoeeipaaVcp2
import Derived.Test.YtfpcfaapoeeipaaVcp3
import Derived.Test.YtfpcfaapoeeipaaVcp4
import Derived.Test.YtfpcfaapoeeipaaVcp5
namespace Go.Proofs.Ytfpcfaapoeeipaa.P
open Go.RowKit Go.Proofs.YtfpcfaapoeeipaaW.PrintWords Go.Proofs.YtfpcfaapoeeipaaW.PrintLast Go.Proofs.YtfpcfaapoeeipaaW.PrintMore
attribute [local go_sem] max2_int min2_int max_two min_two
set_option linter.unusedVariables false
set_option linter.unusedSimpArgs false
mutual
def impl_alone.l0 : Nat → Int → List (S75) → List Int → List Int → List Int → List Int → Int → Option (List Int × List Int)
 | 0, _, _, _, _, _, _, _ => none
 | k + 1, x0, x1, x8, x9, x11, x12, x13 => if x13 < (x1.length : Int) then (if 0 ≤ x13 then (if ((rd_T75 x1 x13).f0) = 0 then (impl_alone.j1 k x0 x1 x8 x9 x11 x12 x13 ((rd_T75 x1 x13).f0) (((rd_T75 x1 x13).f0) == 0) ((rd_T75 x1 x13).f0) ((rd_T75 x1 x13).f1) ((rd_T75 x1 x13).f2) ((rd_T75 x1 x13).f3) ((rd_T75 x1 x13).f4)) else (impl_alone.j1 k x0 x1 x8 x9 x11 x12 x13 ((rd_T75 x1 x13).f0) (((rd_T75 x1 x13).f0) == 1) ((rd_T75 x1 x13).f0) ((rd_T75 x1 x13).f1) ((rd_T75 x1 x13).f2) ((rd_T75 x1 x13).f3) ((rd_T75 x1 x13).f4))) else (none)) else (some (x8, x11))
def impl_alone.j1 : Nat → Int → List (S75) → List Int → List Int → List Int → List Int → Int → Int → Bool → Int → Int → Int → Int → Int → Option (List Int × List Int)
 | 0, _, _, _, _, _, _, _, _, _, _, _, _, _, _ => none
 | k + 1, x0, x1, x8, x9, x11, x12, x13, x35, x36, x349000, x349001, x349002, x349003, x349004 => if x36 = true then ((impl_set.f x0 x349000 x349001 x349002 x349003 x349004 x8).bind fun t349 => (if x11.length < 17592186044416 then (impl_alone.l0 k x0 x1 t349 x9 (x11 ++ [x13]) x12 (wrap64 (x13 + 1))) else (none))) else (if x35 = 2 then (if 0 ≤ x349003 then (if x349003 < (x8.length : Int) then (if 0 ≤ x349004 then (if x349004 < (x8.length : Int) then ((impl_holds.f x349002 x0 (rd x8 x349003) (rd x8 x349004)).bind fun t355 => (if t355 = true then (impl_alone.l0 k x0 x1 x8 x9 x11 x12 (wrap64 (x13 + 1))) else (if 0 ≤ x13 then (if x13 < (x9.length : Int) then (impl_alone.l0 k x0 x1 x8 x9 x11 x12 (wrap64 ((rd x9 x13) + 1))) else (none)) else (none)))) else (none)) else (none)) else (none)) else (none)) else (if x35 = 3 then (if 0 ≤ x13 then (if x13 < (x9.length : Int) then (impl_alone.l0 k x0 x1 x8 x9 x11 x12 (wrap64 ((rd x9 x13) + 1))) else (none)) else (none)) else (if x35 = 5 then (if x12.length < 17592186044416 then (impl_alone.l0 k x0 x1 x8 x9 x11 (x12 ++ [x349004]) (wrap64 (x13 + 1))) else (none)) else (if x35 = 6 then (if 0 ≤ x349003 then (if x349003 < (x8.length : Int) then (if 0 ≤ x349004 then (if x349004 < (x8.length : Int) then ((impl_holds.f x349002 x0 (rd x8 x349003) (rd x8 x349004)).bind fun t363 => (if t363 = true then (if 0 ≤ x13 then (if x13 < (x9.length : Int) then (if 0 ≤ (wrap64 ((x12.length : Int) - 1)) then (if (wrap64 ((x12.length : Int) - 1)) ≤ (x12.length : Int) then (impl_alone.l0 k x0 x1 x8 x9 x11 (x12.take ((wrap64 ((x12.length : Int) - 1)) : Int).toNat) (wrap64 ((rd x9 x13) + 1))) else (none)) else (none)) else (none)) else (none)) else (impl_alone.l0 k x0 x1 x8 x9 x11 x12 (wrap64 (x13 + 1))))) else (none)) else (none)) else (none)) else (none)) else (if x35 = 4 then (if 0 ≤ x13 then (if x13 < (x9.length : Int) then (if 0 ≤ (rd x9 x13) then (if (rd x9 x13) < (x1.length : Int) then (if ((rd_T75 x1 (rd x9 x13)).f0) = 5 then (if 0 ≤ (wrap64 ((x12.length : Int) - 1)) then (if (wrap64 ((x12.length : Int) - 1)) < (x12.length : Int) then ((some (x12.set ((wrap64 ((x12.length : Int) - 1)) : Int).toNat (wrap64 ((rd x12 (wrap64 ((x12.length : Int) - 1))) - 1)) : List Int)).bind fun y371 => (if (rd y371 (wrap64 ((x12.length : Int) - 1))) > 0 then (impl_alone.l0 k x0 x1 x8 x9 x11 y371 (wrap64 ((rd x9 x13) + 1))) else (if (wrap64 ((x12.length : Int) - 1)) ≤ (x12.length : Int) then (impl_alone.l0 k x0 x1 x8 x9 x11 (y371.take ((wrap64 ((x12.length : Int) - 1)) : Int).toNat) (wrap64 (x13 + 1))) else (none)))) else (none)) else (none)) else (impl_alone.l0 k x0 x1 x8 x9 x11 x12 (wrap64 (x13 + 1)))) else (none)) else (none)) else (none)) else (none)) else (impl_alone.l0 k x0 x1 x8 x9 x11 x12 (wrap64 (x13 + 1))))))))
end
def impl_alone.f (k : Nat) (a0 : Int) (l1 : List (S75)) (l2 : List Int) : Option (List Int × List Int) := (slices_Clone_int64_int64.f l2).bind fun t340 => ((impl_paired.f k a0 l1).bind fun bt343 => (impl_alone.l0 k a0 l1 t340 bt343.1 ([] : List Int) ([] : List Int) 0))
set_option maxHeartbeats 8000000 in
set_option maxRecDepth 100000 in
theorem impl_alone.calls (k : Nat) (a0 : Int) (A1 : Option Addr) (c1 : Nat) (l1 : List (S75)) (A2 : Option Addr) (c2 : Nat) (l2 : List Int) (r1 : List Int) (r2 : List Int) (w : World) (hr1 : Kd.C k75 w A1 l1.length l1) (hc1 : l1.length ≤ c1) (hr2 : Kd.C (Kd.int .i64) w A2 l2.length l2) (hc2 : l2.length ≤ c2) (h : impl_alone.f k a0 l1 l2 = some (r1, r2)) :
  Calls Try.prog 72 #[.int .i64 a0, .slice A1 l1.length c1, .slice A2 l2.length c2] w fun e w' => ∃ v0_ v1_ : Value, e = .returned (.tuple #[v0_, v1_]) ∧ Kd.R (Kd.int .i64) 2 w' w.heap.size (fun k_ => some k_ ≠ (v1_ : Value).ownBlock) v0_ r1 ∧ Kd.R (Kd.int .i64) 2 w' w.heap.size (fun k_ => some k_ ≠ (v0_ : Value).ownBlock) v1_ r2 ∧ Below w.heap.size w w' := by
 have hu75 := Try.underlying75
 have HR1 := am hr1
 have HC1 := am hc1
 clear hr1 hc1
 have HR2 := am hr2
 have HC2 := am hc2
 clear hr2 hc2
 have HB := am (Below.refl w.heap.size w)
 have H : ((slices_Clone_int64_int64.f l2).bind fun t340 => ((impl_paired.f k a0 l1).bind fun bt343 => (impl_alone.l0 k a0 l1 t340 bt343.1 ([] : List Int) ([] : List Int) 0))) = some (r1, r2) := h
 clear h
 replace H := Option.bind_eq_some_iff.mp H
 obtain ⟨t340, A40, H⟩ := H
 replace H : ((impl_paired.f k a0 l1).bind fun bt343 => (impl_alone.l0 k a0 l1 t340 bt343.1 ([] : List Int) ([] : List Int) 0)) = some (r1, r2) := H
 have A4 := am A40
 clear A40
 replace H := Option.bind_eq_some_iff.mp H
 obtain ⟨⟨t343, t344⟩, A50, H⟩ := H
 replace H : (impl_alone.l0 k a0 l1 t340 t343 ([] : List Int) ([] : List Int) 0) = some (r1, r2) := H
 have A5 := am A50
 clear A50; have H' := am H; clear H
 go_enter Try.func72, Try.ntmps72
 go_wp2_with (first | (go_at_call 67; (with_reducible refine (slices_Clone_int64_int64.calls _ _ l2 t340 _ ?side1 ?side2 A4.out).mono ?_); (case side1 => repeat (first | exact HR2.out | (with_reducible refine Kd.C_alloc ?_ _) | (with_reducible refine Kd.C_drewN ?_ _) | (with_reducible refine Kd.C_drew ?_))); (case side2 => exact HC2.out); rintro e w6 ⟨v341, rfl, ho0, hb⟩; have n0_ := am (Kd.R_lower ho0 (below_size (bst HB))); have n1_ := am (below_step (bst HB) hb); clear HB; have HO342 := n0_; have HB := n1_; clear n0_ n1_; (try clear hb); (try clear hb2); (try clear hk); (try clear hi); (try clear ho0)) | (go_at_call 80; (with_reducible refine (impl_paired.calls k a0 _ _ l1 t343 t344 _ ?side1 ?side2 A5.out).mono ?_); (case side1 => repeat (first | exact (Kd.C_below HR1.out HB.out) | (with_reducible refine Kd.C_alloc ?_ _) | (with_reducible refine Kd.C_drewN ?_ _) | (with_reducible refine Kd.C_drew ?_))); (case side2 => exact HC1.out); rintro e w7 ⟨v345, rfl, ho0, hb⟩; have n0_ := am (Kd.R_elder' (rst HO342.out) (Kd.R_base ho0) hb); have n1_ := am (Kd.R_lower (Kd.R_new' ho0 (Kd.R_lt (rst HO342.out))) (below_size (bst HB))); have n2_ := am (below_step (bst HB) hb); clear HO342; clear HB; have HO342 := n0_; have HO346 := n1_; have HB := n2_; clear n0_ n1_ n2_; (try clear hb); (try clear hb2); (try clear hk); (try clear hi); (try clear ho0)))
 go_loopg [11, 12, 13] k (fun kq v11 v12 v13 w' => ∃ (x8_1 : List Int) (x9_1 : List Int) (x11_1 : List Int) (x12_1 : List Int) (x13_1 : Int), v13 = .int .i64 x13_1 ∧ Aside0 (impl_alone.l0 kq a0 l1 x8_1 x9_1 x11_1 x12_1 x13_1 = some (r1, r2)) ∧ Aside0 (kq ≤ k) ∧ Aside0 (Kd.R (Kd.int .i64) 2 w' w.heap.size (fun k_ => some k_ ≠ (v345 : Value).ownBlock ∧ some k_ ≠ (v11 : Value).ownBlock ∧ some k_ ≠ (v12 : Value).ownBlock) v341 x8_1) ∧ Aside0 (Kd.R (Kd.int .i64) 2 w' w.heap.size (fun k_ => some k_ ≠ (v341 : Value).ownBlock ∧ some k_ ≠ (v11 : Value).ownBlock ∧ some k_ ≠ (v12 : Value).ownBlock) v345 x9_1) ∧ Aside0 (Kd.R (Kd.int .i64) 2 w' w.heap.size (fun k_ => some k_ ≠ (v341 : Value).ownBlock ∧ some k_ ≠ (v345 : Value).ownBlock ∧ some k_ ≠ (v12 : Value).ownBlock) v11 x11_1) ∧ Aside0 (Kd.R (Kd.int .i64) 2 w' w.heap.size (fun k_ => some k_ ≠ (v341 : Value).ownBlock ∧ some k_ ≠ (v345 : Value).ownBlock ∧ some k_ ≠ (v11 : Value).ownBlock) v12 x12_1) ∧ Aside0 (Below w.heap.size w w'))
 case atStart => exact ⟨(t340), (t343), (([] : List Int)), (([] : List Int)), (0), (by first | rfl | (simp; done) | (simp [*]; done)), H', ⟨Nat.le_refl _⟩, ⟨by (with_reducible repeat (first | apply Kd.R_alloc | apply Kd.R_drewN | apply Kd.R_drew)); exact Kd.R_mono HO342.out (fun _ hk => ⟨hk.2, ⟨(by simp [Value.ownBlock]), (by simp [Value.ownBlock])⟩⟩)⟩, ⟨by (with_reducible repeat (first | apply Kd.R_alloc | apply Kd.R_drewN | apply Kd.R_drew)); exact Kd.R_mono HO346.out (fun _ hk => ⟨hk.2, ⟨(by simp [Value.ownBlock]), (by simp [Value.ownBlock])⟩⟩)⟩, ⟨by first | exact Kd.R_nil _ _ _ _ _ | exact Kd.N_nil _ _ _ _ _ | exact Kd.V_nil _ _ _ _ _ | exact Kd.Q_nil _ _ _ _ _ | exact Kd.S_nil _ _ _ _ _⟩, ⟨by first | exact Kd.R_nil _ _ _ _ _ | exact Kd.N_nil _ _ _ _ _ | exact Kd.V_nil _ _ _ _ _ | exact Kd.Q_nil _ _ _ _ _ | exact Kd.S_nil _ _ _ _ _⟩, ⟨bst HB⟩⟩
 case round =>
  clear H'; (try clear c1); (try clear c2); (try clear p2); (try clear c7)
  obtain ⟨x8_1, x9_1, x11_1, x12_1, x13_1, rfl, HA, HK1, HO_8, HO_9, HO_11, HO_12, HB⟩ := hrel
  cases gk with
  | zero => exact absurd HA.out (by simp [impl_alone.l0])
  | succ k1 =>
   have H := HA.out
   clear HA
   simp only [impl_alone.l0] at H
   by_cases c8 : x13_1 < (l1.length : Int)
   ·
    rw [if_pos c8] at H
    have c8b0 : decide (x13_1 < (l1.length : Int)) = true := decide_eq_true c8
    clear c8
    replace H := ifp H; obtain ⟨c9, H⟩ := H
    have c9b0 : decide (0 ≤ x13_1) = true := decide_eq_true c9
    clear c9
    have HC10 := am H
    clear H
    have p347 : 0 ≤ (x13_1 : Int) := od (by assumption)
    have q347 : x13_1 < (l1.length : Int) := od (by assumption)
    obtain ⟨ad347, e347, hx347_0, hx347_1, hx347_2, hx347_3, hx347_4⟩ := at_T75 HR1.out x13_1 p347 q347
    cases e347
    replace hx347_0 := bc HB hx347_0
    replace hx347_1 := bc HB hx347_1
    replace hx347_2 := bc HB hx347_2
    replace hx347_3 := bc HB hx347_3
    replace hx347_4 := bc HB hx347_4
    replace p347 := eq_true p347; replace q347 := eq_true q347
    go_upto_if 36 with (first | ((with_reducible refine gate_dst (N := 14) rfl ?_); refine box_event ?hg (N := 14) ?hd (cs := #[.int .i64 0, .int .i64 0, .int .i64 0, .int .i64 0, .int .i64 0]) (t := 75) ?hr ?_; (case hd => rfl); (case hg => rfl); (case hr => first | (go_simp; done) | (go_simp; rfl)); intro gb348 hg w11 hbox hb; have n0_ := am (Kd.R_below (rst HO_8.out) hb); have n1_ := am (Kd.R_below (rst HO_9.out) hb); have n2_ := am (Kd.R_below (rst HO_11.out) hb); have n3_ := am (Kd.R_below (rst HO_12.out) hb); have n4_ := am (below_step (bst HB) hb); have n5_ := am (hbox); have n6_ := am ((by rw [hg]; exact (below_size (bst HB)) : w.heap.size ≤ gb348)); have n7_ := am ((by rw [hg]; exact (below_size (bst HB)) : w.heap.size ≤ gb348)); clear HO_8; clear HO_9; clear HO_11; clear HO_12; clear HB; have HO_8 := n0_; have HO_9 := n1_; have HO_11 := n2_; have HO_12 := n3_; have HB := n4_; have BK348 := n5_; have GW348 := n6_; have GE348 := n7_; clear n0_ n1_ n2_ n3_ n4_ n5_ n6_ n7_; clear hb hbox hg; obtain ⟨hcz12_0, hcz12_1, hcz12_2, hcz12_3, hcz12_4, hfz12_0, hfz12_1, hfz12_2, hfz12_3, hfz12_4⟩ := bx5 BK348.out))
    (try simp only [Act.put, List.setIfInBounds_toArray, List.set_cons_zero, List.set_cons_succ])
    go_cut [36] (fun v36 wc => ∃ (kq : Nat) (x36_9 : Bool), v36 = .bool x36_9 ∧ Aside0 (impl_alone.j1 kq a0 l1 x8_1 x9_1 x11_1 x12_1 x13_1 ((rd_T75 l1 x13_1).f0) x36_9 ((rd_T75 l1 x13_1).f0) ((rd_T75 l1 x13_1).f1) ((rd_T75 l1 x13_1).f2) ((rd_T75 l1 x13_1).f3) ((rd_T75 l1 x13_1).f4) = some (r1, r2)) ∧ Aside0 (kq ≤ k1) ∧ Aside0 (Kd.R (Kd.int .i64) 2 wc w.heap.size (fun k_ => some k_ ≠ (v345 : Value).ownBlock ∧ some k_ ≠ (u11 : Value).ownBlock ∧ some k_ ≠ (u12 : Value).ownBlock) v341 x8_1) ∧ Aside0 (Kd.R (Kd.int .i64) 2 wc w.heap.size (fun k_ => some k_ ≠ (v341 : Value).ownBlock ∧ some k_ ≠ (u11 : Value).ownBlock ∧ some k_ ≠ (u12 : Value).ownBlock) v345 x9_1) ∧ Aside0 (Kd.R (Kd.int .i64) 2 wc w.heap.size (fun k_ => some k_ ≠ (v341 : Value).ownBlock ∧ some k_ ≠ (v345 : Value).ownBlock ∧ some k_ ≠ (u12 : Value).ownBlock) u11 x11_1) ∧ Aside0 (Kd.R (Kd.int .i64) 2 wc w.heap.size (fun k_ => some k_ ≠ (v341 : Value).ownBlock ∧ some k_ ≠ (v345 : Value).ownBlock ∧ some k_ ≠ (u11 : Value).ownBlock) u12 x12_1) ∧ Aside0 (wc.heap[gb348]? = some (.cells #[.int .i64 ((rd_T75 l1 x13_1).f0), .int .i64 ((rd_T75 l1 x13_1).f1), .int .i64 ((rd_T75 l1 x13_1).f2), .int .i64 ((rd_T75 l1 x13_1).f3), .int .i64 ((rd_T75 l1 x13_1).f4)] 75 (0, 0))) ∧ Aside0 (Below w.heap.size w wc))
    case first =>
     have H := HC10.out
     clear HC10
     by_cases c13 : ((rd_T75 l1 x13_1).f0) = 0
     ·
      rw [if_pos c13] at H
      have c13b0 : (((rd_T75 l1 x13_1).f0) == 0) = true := beq_iff_eq.mpr c13
      have c13b1 : (((rd_T75 l1 x13_1).f0) != 0) = false := bne_eq_false_iff_eq.mpr c13
      clear c13
      (first | rw [c13b0] | (simp only [i64_w, i32_w]; rw [c13b0]) | skip)
      have H' := am H; clear H
      go_wp2
      go_meet
      case rel => exact ⟨_, ((((rd_T75 l1 x13_1).f0) == 0)), (by first | rfl | (simp; done) | (simp [*]; done)), H', ⟨by have := HK1.out; first | omega | exact Nat.le_refl _⟩, ⟨by (with_reducible repeat (first | apply Kd.R_alloc | apply Kd.R_drewN | apply Kd.R_drew)); exact Kd.R_mono (Kd.R_far (p := ⟨gb348, 4, none⟩) (Kd.R_far (p := ⟨gb348, 3, none⟩) (Kd.R_far (p := ⟨gb348, 2, none⟩) (Kd.R_far (p := ⟨gb348, 1, none⟩) (Kd.R_far (p := ⟨gb348, 0, none⟩) (Kd.R_types HO_8.out BK348.out (by decide)) (fun _ hk => hk.2) (.int .i64 ((rd_T75 l1 x13_1).f0))) (fun _ hk => hk.2) (.int .i64 ((rd_T75 l1 x13_1).f1))) (fun _ hk => hk.2) (.int .i64 ((rd_T75 l1 x13_1).f2))) (fun _ hk => hk.2) (.int .i64 ((rd_T75 l1 x13_1).f3))) (fun _ hk => hk.2) (.int .i64 ((rd_T75 l1 x13_1).f4))) (fun _ hk => ⟨hk.1.1, ⟨hk.1.2.1, hk.1.2.2⟩⟩)⟩, ⟨by (with_reducible repeat (first | apply Kd.R_alloc | apply Kd.R_drewN | apply Kd.R_drew)); exact Kd.R_mono (Kd.R_far (p := ⟨gb348, 4, none⟩) (Kd.R_far (p := ⟨gb348, 3, none⟩) (Kd.R_far (p := ⟨gb348, 2, none⟩) (Kd.R_far (p := ⟨gb348, 1, none⟩) (Kd.R_far (p := ⟨gb348, 0, none⟩) (Kd.R_types HO_9.out BK348.out (by decide)) (fun _ hk => hk.2) (.int .i64 ((rd_T75 l1 x13_1).f0))) (fun _ hk => hk.2) (.int .i64 ((rd_T75 l1 x13_1).f1))) (fun _ hk => hk.2) (.int .i64 ((rd_T75 l1 x13_1).f2))) (fun _ hk => hk.2) (.int .i64 ((rd_T75 l1 x13_1).f3))) (fun _ hk => hk.2) (.int .i64 ((rd_T75 l1 x13_1).f4))) (fun _ hk => ⟨hk.1.1, ⟨hk.1.2.1, hk.1.2.2⟩⟩)⟩, ⟨by (with_reducible repeat (first | apply Kd.R_alloc | apply Kd.R_drewN | apply Kd.R_drew)); exact Kd.R_mono (Kd.R_far (p := ⟨gb348, 4, none⟩) (Kd.R_far (p := ⟨gb348, 3, none⟩) (Kd.R_far (p := ⟨gb348, 2, none⟩) (Kd.R_far (p := ⟨gb348, 1, none⟩) (Kd.R_far (p := ⟨gb348, 0, none⟩) (Kd.R_types HO_11.out BK348.out (by decide)) (fun _ hk => hk.2) (.int .i64 ((rd_T75 l1 x13_1).f0))) (fun _ hk => hk.2) (.int .i64 ((rd_T75 l1 x13_1).f1))) (fun _ hk => hk.2) (.int .i64 ((rd_T75 l1 x13_1).f2))) (fun _ hk => hk.2) (.int .i64 ((rd_T75 l1 x13_1).f3))) (fun _ hk => hk.2) (.int .i64 ((rd_T75 l1 x13_1).f4))) (fun _ hk => ⟨hk.1.1, ⟨hk.1.2.1, hk.1.2.2⟩⟩)⟩, ⟨by (with_reducible repeat (first | apply Kd.R_alloc | apply Kd.R_drewN | apply Kd.R_drew)); exact Kd.R_mono (Kd.R_far (p := ⟨gb348, 4, none⟩) (Kd.R_far (p := ⟨gb348, 3, none⟩) (Kd.R_far (p := ⟨gb348, 2, none⟩) (Kd.R_far (p := ⟨gb348, 1, none⟩) (Kd.R_far (p := ⟨gb348, 0, none⟩) (Kd.R_types HO_12.out BK348.out (by decide)) (fun _ hk => hk.2) (.int .i64 ((rd_T75 l1 x13_1).f0))) (fun _ hk => hk.2) (.int .i64 ((rd_T75 l1 x13_1).f1))) (fun _ hk => hk.2) (.int .i64 ((rd_T75 l1 x13_1).f2))) (fun _ hk => hk.2) (.int .i64 ((rd_T75 l1 x13_1).f3))) (fun _ hk => hk.2) (.int .i64 ((rd_T75 l1 x13_1).f4))) (fun _ hk => ⟨hk.1.1, ⟨hk.1.2.1, hk.1.2.2⟩⟩)⟩, ⟨by (with_reducible repeat (first | refine blk_drewN ?_ _ | refine blk_drew ?_ | refine blk_alloc ?_ _)); refine blk_put (cs := #[.int .i64 ((rd_T75 l1 x13_1).f0), .int .i64 ((rd_T75 l1 x13_1).f1), .int .i64 ((rd_T75 l1 x13_1).f2), .int .i64 ((rd_T75 l1 x13_1).f3), .int .i64 0]) ?_ 4 _ rfl; (with_reducible repeat (first | refine blk_drewN ?_ _ | refine blk_drew ?_ | refine blk_alloc ?_ _)); refine blk_put (cs := #[.int .i64 ((rd_T75 l1 x13_1).f0), .int .i64 ((rd_T75 l1 x13_1).f1), .int .i64 ((rd_T75 l1 x13_1).f2), .int .i64 0, .int .i64 0]) ?_ 3 _ rfl; (with_reducible repeat (first | refine blk_drewN ?_ _ | refine blk_drew ?_ | refine blk_alloc ?_ _)); refine blk_put (cs := #[.int .i64 ((rd_T75 l1 x13_1).f0), .int .i64 ((rd_T75 l1 x13_1).f1), .int .i64 0, .int .i64 0, .int .i64 0]) ?_ 2 _ rfl; (with_reducible repeat (first | refine blk_drewN ?_ _ | refine blk_drew ?_ | refine blk_alloc ?_ _)); refine blk_put (cs := #[.int .i64 ((rd_T75 l1 x13_1).f0), .int .i64 0, .int .i64 0, .int .i64 0, .int .i64 0]) ?_ 1 _ rfl; (with_reducible repeat (first | refine blk_drewN ?_ _ | refine blk_drew ?_ | refine blk_alloc ?_ _)); refine blk_put (cs := #[.int .i64 0, .int .i64 0, .int .i64 0, .int .i64 0, .int .i64 0]) ?_ 0 _ rfl; (with_reducible repeat (first | refine blk_drewN ?_ _ | refine blk_drew ?_ | refine blk_alloc ?_ _)); exact BK348.out⟩, ⟨by repeat (first | (with_reducible first | exact HB.out | apply below_alloc | apply pw_below_drewN | apply below_drew1 | refine below_set ?_ GE348.out) | exact HB.out)⟩⟩
     ·
      rw [if_neg c13] at H
      have c13b0 : (((rd_T75 l1 x13_1).f0) == 0) = false := beq_eq_false_iff_ne.mpr c13
      have c13b1 : (((rd_T75 l1 x13_1).f0) != 0) = true := bne_iff_ne.mpr c13
      (first | rw [c13b0] | (simp only [i64_w, i32_w]; rw [c13b0]) | skip)
      have H' := am H; clear H
      go_wp2
      go_meet
      case rel => exact ⟨_, ((((rd_T75 l1 x13_1).f0) == 1)), (by first | rfl | (simp; done) | (simp [*]; done)), H', ⟨by have := HK1.out; first | omega | exact Nat.le_refl _⟩, ⟨by (with_reducible repeat (first | apply Kd.R_alloc | apply Kd.R_drewN | apply Kd.R_drew)); exact Kd.R_mono (Kd.R_far (p := ⟨gb348, 4, none⟩) (Kd.R_far (p := ⟨gb348, 3, none⟩) (Kd.R_far (p := ⟨gb348, 2, none⟩) (Kd.R_far (p := ⟨gb348, 1, none⟩) (Kd.R_far (p := ⟨gb348, 0, none⟩) (Kd.R_types HO_8.out BK348.out (by decide)) (fun _ hk => hk.2) (.int .i64 ((rd_T75 l1 x13_1).f0))) (fun _ hk => hk.2) (.int .i64 ((rd_T75 l1 x13_1).f1))) (fun _ hk => hk.2) (.int .i64 ((rd_T75 l1 x13_1).f2))) (fun _ hk => hk.2) (.int .i64 ((rd_T75 l1 x13_1).f3))) (fun _ hk => hk.2) (.int .i64 ((rd_T75 l1 x13_1).f4))) (fun _ hk => ⟨hk.1.1, ⟨hk.1.2.1, hk.1.2.2⟩⟩)⟩, ⟨by (with_reducible repeat (first | apply Kd.R_alloc | apply Kd.R_drewN | apply Kd.R_drew)); exact Kd.R_mono (Kd.R_far (p := ⟨gb348, 4, none⟩) (Kd.R_far (p := ⟨gb348, 3, none⟩) (Kd.R_far (p := ⟨gb348, 2, none⟩) (Kd.R_far (p := ⟨gb348, 1, none⟩) (Kd.R_far (p := ⟨gb348, 0, none⟩) (Kd.R_types HO_9.out BK348.out (by decide)) (fun _ hk => hk.2) (.int .i64 ((rd_T75 l1 x13_1).f0))) (fun _ hk => hk.2) (.int .i64 ((rd_T75 l1 x13_1).f1))) (fun _ hk => hk.2) (.int .i64 ((rd_T75 l1 x13_1).f2))) (fun _ hk => hk.2) (.int .i64 ((rd_T75 l1 x13_1).f3))) (fun _ hk => hk.2) (.int .i64 ((rd_T75 l1 x13_1).f4))) (fun _ hk => ⟨hk.1.1, ⟨hk.1.2.1, hk.1.2.2⟩⟩)⟩, ⟨by (with_reducible repeat (first | apply Kd.R_alloc | apply Kd.R_drewN | apply Kd.R_drew)); exact Kd.R_mono (Kd.R_far (p := ⟨gb348, 4, none⟩) (Kd.R_far (p := ⟨gb348, 3, none⟩) (Kd.R_far (p := ⟨gb348, 2, none⟩) (Kd.R_far (p := ⟨gb348, 1, none⟩) (Kd.R_far (p := ⟨gb348, 0, none⟩) (Kd.R_types HO_11.out BK348.out (by decide)) (fun _ hk => hk.2) (.int .i64 ((rd_T75 l1 x13_1).f0))) (fun _ hk => hk.2) (.int .i64 ((rd_T75 l1 x13_1).f1))) (fun _ hk => hk.2) (.int .i64 ((rd_T75 l1 x13_1).f2))) (fun _ hk => hk.2) (.int .i64 ((rd_T75 l1 x13_1).f3))) (fun _ hk => hk.2) (.int .i64 ((rd_T75 l1 x13_1).f4))) (fun _ hk => ⟨hk.1.1, ⟨hk.1.2.1, hk.1.2.2⟩⟩)⟩, ⟨by (with_reducible repeat (first | apply Kd.R_alloc | apply Kd.R_drewN | apply Kd.R_drew)); exact Kd.R_mono (Kd.R_far (p := ⟨gb348, 4, none⟩) (Kd.R_far (p := ⟨gb348, 3, none⟩) (Kd.R_far (p := ⟨gb348, 2, none⟩) (Kd.R_far (p := ⟨gb348, 1, none⟩) (Kd.R_far (p := ⟨gb348, 0, none⟩) (Kd.R_types HO_12.out BK348.out (by decide)) (fun _ hk => hk.2) (.int .i64 ((rd_T75 l1 x13_1).f0))) (fun _ hk => hk.2) (.int .i64 ((rd_T75 l1 x13_1).f1))) (fun _ hk => hk.2) (.int .i64 ((rd_T75 l1 x13_1).f2))) (fun _ hk => hk.2) (.int .i64 ((rd_T75 l1 x13_1).f3))) (fun _ hk => hk.2) (.int .i64 ((rd_T75 l1 x13_1).f4))) (fun _ hk => ⟨hk.1.1, ⟨hk.1.2.1, hk.1.2.2⟩⟩)⟩, ⟨by (with_reducible repeat (first | refine blk_drewN ?_ _ | refine blk_drew ?_ | refine blk_alloc ?_ _)); refine blk_put (cs := #[.int .i64 ((rd_T75 l1 x13_1).f0), .int .i64 ((rd_T75 l1 x13_1).f1), .int .i64 ((rd_T75 l1 x13_1).f2), .int .i64 ((rd_T75 l1 x13_1).f3), .int .i64 0]) ?_ 4 _ rfl; (with_reducible repeat (first | refine blk_drewN ?_ _ | refine blk_drew ?_ | refine blk_alloc ?_ _)); refine blk_put (cs := #[.int .i64 ((rd_T75 l1 x13_1).f0), .int .i64 ((rd_T75 l1 x13_1).f1), .int .i64 ((rd_T75 l1 x13_1).f2), .int .i64 0, .int .i64 0]) ?_ 3 _ rfl; (with_reducible repeat (first | refine blk_drewN ?_ _ | refine blk_drew ?_ | refine blk_alloc ?_ _)); refine blk_put (cs := #[.int .i64 ((rd_T75 l1 x13_1).f0), .int .i64 ((rd_T75 l1 x13_1).f1), .int .i64 0, .int .i64 0, .int .i64 0]) ?_ 2 _ rfl; (with_reducible repeat (first | refine blk_drewN ?_ _ | refine blk_drew ?_ | refine blk_alloc ?_ _)); refine blk_put (cs := #[.int .i64 ((rd_T75 l1 x13_1).f0), .int .i64 0, .int .i64 0, .int .i64 0, .int .i64 0]) ?_ 1 _ rfl; (with_reducible repeat (first | refine blk_drewN ?_ _ | refine blk_drew ?_ | refine blk_alloc ?_ _)); refine blk_put (cs := #[.int .i64 0, .int .i64 0, .int .i64 0, .int .i64 0, .int .i64 0]) ?_ 0 _ rfl; (with_reducible repeat (first | refine blk_drewN ?_ _ | refine blk_drew ?_ | refine blk_alloc ?_ _)); exact BK348.out⟩, ⟨by repeat (first | (with_reducible first | exact HB.out | apply below_alloc | apply pw_below_drewN | apply below_drew1 | refine below_set ?_ GE348.out) | exact HB.out)⟩⟩
    case rest =>
     clear HC10; (try clear c1); (try clear c2); (try clear p2); (try clear p3); (try clear q3); (try clear hx3); (try clear c7); (try clear c8); (try clear c8b0); (try clear c9); (try clear c9b0); (try clear c13); (try clear c13b0); (try clear c13b1); (try clear hcz12_0); (try clear hcz12_1); (try clear hcz12_2); (try clear hcz12_3); (try clear hcz12_4); (try clear hfz12_0); (try clear hfz12_1); (try clear hfz12_2); (try clear hfz12_3); (try clear hfz12_4); (try clear hx347_0); (try clear hx347_1); (try clear hx347_2); (try clear hx347_3); (try clear hx347_4); (try clear p2); (try clear p347); (try clear q347)
     obtain ⟨kq, x36_9, rfl, HA, HJ9, HO_8, HO_9, HO_11, HO_12, BK348, HB⟩ := hcut
     cases kq with
     | zero => exact absurd HA.out (by simp [impl_alone.j1])
     | succ kj9 =>
      have H := HA.out
      clear HA
      simp only [impl_alone.j1] at H
      by_cases c14 : x36_9 = true
      ·
       subst c14
       have H1 : ((impl_set.f a0 ((rd_T75 l1 x13_1).f0) ((rd_T75 l1 x13_1).f1) ((rd_T75 l1 x13_1).f2) ((rd_T75 l1 x13_1).f3) ((rd_T75 l1 x13_1).f4) x8_1).bind fun t349 => (if x11_1.length < 17592186044416 then (impl_alone.l0 kj9 a0 l1 t349 x9_1 (x11_1 ++ [x13_1]) x12_1 (wrap64 (x13_1 + 1))) else (none))) = some (r1, r2) := by rw [if_pos rfl] at H; exact H
       clear H
       have H := H1
       clear H1
       replace H := Option.bind_eq_some_iff.mp H
       obtain ⟨t349, A150, H⟩ := H
       replace H : (if x11_1.length < 17592186044416 then (impl_alone.l0 kj9 a0 l1 t349 x9_1 (x11_1 ++ [x13_1]) x12_1 (wrap64 (x13_1 + 1))) else (none)) = some (r1, r2) := H
       have A15 := am A150
       clear A150
       replace H := ifp H; obtain ⟨c16, H⟩ := H
       have LMc16 := am c16
       clear c16
       obtain ⟨y350, hy350⟩ : ∃ y_ : List Int, y_ = (x11_1 ++ [x13_1]) := ⟨_, rfl⟩
       replace H : (impl_alone.l0 kj9 a0 l1 t349 x9_1 y350 x12_1 (wrap64 (x13_1 + 1))) = some (r1, r2) := by first | (rw [hy350]; with_reducible exact H) | (have H2_ := bsm H; rw [hy350]; with_reducible exact H2_) | (have H2_ := bsm H; exact H2_) | (rw [hy350]; exact H) | exact H
       have Ny350 := am hy350; clear hy350; have H' := am H; clear H
       obtain ⟨hcz17_0, hcz17_1, hcz17_2, hcz17_3, hcz17_4, hfz17_0, hfz17_1, hfz17_2, hfz17_3, hfz17_4⟩ := bx5 BK348.out
       obtain ⟨Ao18, co18, eo18⟩ := Kd.R_slice HO_8.out
       subst eo18
       go_wp2_with (first | (go_at_call 105; (with_reducible refine (impl_set.calls a0 ((rd_T75 l1 x13_1).f0) ((rd_T75 l1 x13_1).f1) ((rd_T75 l1 x13_1).f2) ((rd_T75 l1 x13_1).f3) ((rd_T75 l1 x13_1).f4) (fun k_ => some k_ = (.slice Ao18 x8_1.length co18 : Value).ownBlock) (.slice Ao18 x8_1.length co18) x8_1 t349 w _ ?side1 ?side2 A15.out).mono ?_); (case side1 => repeat (first | (with_reducible first | exact HB.out | apply below_alloc | apply pw_below_drewN | apply below_drew1 | refine below_set ?_ GE348.out) | exact HB.out)); (case side2 => exact Kd.R_tight rfl HO_8.out); rintro e w19 ⟨rfl, hy0, hb, hkp⟩; have n0_ := am (Kd.R_reok rfl hy0 (fun k_ e_ => HO_8.out.1 k_ e_)); have n1_ := am (Kd.R_mono (ok' := fun k_ => some k_ ≠ (.slice Ao18 x8_1.length co18 : Value).ownBlock ∧ some k_ ≠ (u11 : Value).ownBlock ∧ some k_ ≠ (u12 : Value).ownBlock) (Kd.R_keptB (HO_9.out) hkp (fun k_ hk_ hs_ => (hk_.1) hs_)) (fun k_ hk_ => ⟨hk_.1.1, hk_.1.2.1, hk_.1.2.2⟩)); have n2_ := am (Kd.R_mono (ok' := fun k_ => some k_ ≠ (.slice Ao18 x8_1.length co18 : Value).ownBlock ∧ some k_ ≠ (v345 : Value).ownBlock ∧ some k_ ≠ (u12 : Value).ownBlock) (Kd.R_keptB (HO_11.out) hkp (fun k_ hk_ hs_ => (hk_.1) hs_)) (fun k_ hk_ => ⟨hk_.1.1, hk_.1.2.1, hk_.1.2.2⟩)); have n3_ := am (Kd.R_mono (ok' := fun k_ => some k_ ≠ (.slice Ao18 x8_1.length co18 : Value).ownBlock ∧ some k_ ≠ (v345 : Value).ownBlock ∧ some k_ ≠ (u11 : Value).ownBlock) (Kd.R_keptB (HO_12.out) hkp (fun k_ hk_ hs_ => (hk_.1) hs_)) (fun k_ hk_ => ⟨hk_.1.1, hk_.1.2.1, hk_.1.2.2⟩)); have n4_ := am (blk_kept (by (with_reducible repeat (first | refine blk_drewN ?_ _ | refine blk_drew ?_ | refine blk_alloc ?_ _)); exact BK348.out) hkp (fun hs_ => (fun e_ => (Kd.R_ne HO_8.out BK348.out (by decide)) e_) hs_)); have n5_ := am (hb); clear HO_8; clear HO_9; clear HO_11; clear HO_12; clear BK348; clear HB; have HO_8 := n0_; have HO_9 := n1_; have HO_11 := n2_; have HO_12 := n3_; have BK348 := n4_; have HB := n5_; clear n0_ n1_ n2_ n3_ n4_ n5_; (try clear hb); (try clear hkp); (try clear hy0)) | ((with_reducible refine gate_builtin (b := .append) (xs := #[.tmp 43, .tmp 45]) rfl ?_); at_builtin; refine Kd.R_append (Kd.int .i64) (w0 := w) w.heap.size rfl (.tmp 43) (.tmp 45) 22 2 (.int .i64 0) 8 rfl Try.underlying22 info2 rfl (by decide) (by omega) u11 x11_1 x13_1 [.int .i64 x13_1] (fun k_ => some k_ ≠ (.slice Ao18 x8_1.length co18 : Value).ownBlock ∧ some k_ ≠ (v345 : Value).ownBlock ∧ some k_ ≠ (u12 : Value).ownBlock) (fun _ => False) rfl rfl ?aP (fun _ hk => hk.elim) ?aF ?aO ?aB ?aS ?aL ?_; (case aP => exact rfl); (case aB => exact (by repeat (first | (with_reducible first | exact HB.out | apply below_alloc | apply pw_below_drewN | apply below_drew1 | refine below_set ?_ GE348.out) | exact HB.out))); (case aF => exact (fun k_ hk => ⟨Kd.fresh' (Kd.R_lt (rst HO_8.out)) k_ hk, Kd.fresh' (Kd.R_lt (rst HO_9.out)) k_ hk, Kd.fresh' (Kd.R_lt (rst HO_12.out)) k_ hk⟩)); (case aO => exact (rst HO_11.out)); (case aS => exact (below_size (by repeat (first | (with_reducible first | exact HB.out | apply below_alloc | apply pw_below_drewN | apply below_drew1 | refine below_set ?_ GE348.out) | exact HB.out)))); (case aL => have := LMc16.out; omega); intro v351 w20 ho hb hg hat; rw [← Ny350.out] at ho; have n0_ := am (Kd.R_after (ok := (fun k_ => some k_ ≠ (v345 : Value).ownBlock ∧ some k_ ≠ (u12 : Value).ownBlock)) (rst (Kd.R_mono HO_8.out (fun _ hk => ⟨⟨hk.1, hk.2.2⟩, hk.2.1⟩))) hg hat); have n1_ := am (Kd.R_after (ok := (fun k_ => some k_ ≠ (.slice Ao18 x8_1.length co18 : Value).ownBlock ∧ some k_ ≠ (u12 : Value).ownBlock)) (rst (Kd.R_mono HO_9.out (fun _ hk => ⟨⟨hk.1, hk.2.2⟩, hk.2.1⟩))) hg hat); have n2_ := am (Kd.R_after (ok := (fun k_ => some k_ ≠ (.slice Ao18 x8_1.length co18 : Value).ownBlock ∧ some k_ ≠ (v345 : Value).ownBlock)) (rst (Kd.R_mono HO_12.out (fun _ hk => ⟨⟨hk.1, hk.2.1⟩, hk.2.2⟩))) hg hat); have n3_ := am (blk_grown (g := gb348) (o := .cells #[.int .i64 ((rd_T75 l1 x13_1).f0), .int .i64 ((rd_T75 l1 x13_1).f1), .int .i64 ((rd_T75 l1 x13_1).f2), .int .i64 ((rd_T75 l1 x13_1).f3), .int .i64 ((rd_T75 l1 x13_1).f4)] 75 (0, 0)) (by (with_reducible repeat (first | refine blk_drewN ?_ _ | refine blk_drew ?_ | refine blk_alloc ?_ _)); exact BK348.out) hg (Kd.R_ne HO_11.out BK348.out (by decide))); have n4_ := am (hb); have n5_ := am (ho); clear HO_8; clear HO_9; clear HO_12; clear BK348; clear HB; clear HO_11; have HO_8 := n0_; have HO_9 := n1_; have HO_12 := n2_; have BK348 := n3_; have HB := n4_; have HO352 := n5_; clear n0_ n1_ n2_ n3_ n4_ n5_; clear ho hb hg hat))
       go_roundg kj9
       case measure => have := HK1.out; have := HJ9.out; omega
       case rel => exact ⟨(t349), (x9_1), (y350), (x12_1), (wrap64 (x13_1 + 1)), (by first | rfl | (simp; done) | (simp [*]; done)), H', ⟨by have := HK1.out; have := HJ9.out; omega⟩, ⟨by first | exact rst (Kd.R_mono HO_8.out (fun _ hk => ⟨hk.1.1, ⟨hk.2, hk.1.2⟩⟩)) | exact Kd.R_mono (rst (Kd.R_mono HO_8.out (fun _ hk => ⟨hk.1.1, ⟨hk.2, hk.1.2⟩⟩))) (by intro k_ hk_; simpa only [ob_eq] using hk_)⟩, ⟨by first | exact rst (Kd.R_mono HO_9.out (fun _ hk => ⟨hk.1.1, ⟨hk.2, hk.1.2⟩⟩)) | exact Kd.R_mono (rst (Kd.R_mono HO_9.out (fun _ hk => ⟨hk.1.1, ⟨hk.2, hk.1.2⟩⟩))) (by intro k_ hk_; simpa only [ob_eq] using hk_)⟩, ⟨by first | exact rst HO352.out | exact Kd.R_mono (rst HO352.out) (by intro k_ hk_; simpa only [ob_eq] using hk_)⟩, ⟨by first | exact rst (Kd.R_mono HO_12.out (fun _ hk => ⟨hk.1.1, ⟨hk.1.2, hk.2⟩⟩)) | exact Kd.R_mono (rst (Kd.R_mono HO_12.out (fun _ hk => ⟨hk.1.1, ⟨hk.1.2, hk.2⟩⟩))) (by intro k_ hk_; simpa only [ob_eq] using hk_)⟩, ⟨by repeat (first | (with_reducible first | exact HB.out | apply below_alloc | apply pw_below_drewN | apply below_drew1 | refine below_set ?_ GE348.out) | exact HB.out)⟩⟩
      ·
       replace c14 := Bool.eq_false_iff.mpr c14
       subst c14
       have H1 : (if ((rd_T75 l1 x13_1).f0) = 2 then (if 0 ≤ ((rd_T75 l1 x13_1).f3) then (if ((rd_T75 l1 x13_1).f3) < (x8_1.length : Int) then (if 0 ≤ ((rd_T75 l1 x13_1).f4) then (if ((rd_T75 l1 x13_1).f4) < (x8_1.length : Int) then ((impl_holds.f ((rd_T75 l1 x13_1).f2) a0 (rd x8_1 ((rd_T75 l1 x13_1).f3)) (rd x8_1 ((rd_T75 l1 x13_1).f4))).bind fun t355 => (if t355 = true then (impl_alone.l0 kj9 a0 l1 x8_1 x9_1 x11_1 x12_1 (wrap64 (x13_1 + 1))) else (if 0 ≤ x13_1 then (if x13_1 < (x9_1.length : Int) then (impl_alone.l0 kj9 a0 l1 x8_1 x9_1 x11_1 x12_1 (wrap64 ((rd x9_1 x13_1) + 1))) else (none)) else (none)))) else (none)) else (none)) else (none)) else (none)) else (if ((rd_T75 l1 x13_1).f0) = 3 then (if 0 ≤ x13_1 then (if x13_1 < (x9_1.length : Int) then (impl_alone.l0 kj9 a0 l1 x8_1 x9_1 x11_1 x12_1 (wrap64 ((rd x9_1 x13_1) + 1))) else (none)) else (none)) else (if ((rd_T75 l1 x13_1).f0) = 5 then (if x12_1.length < 17592186044416 then (impl_alone.l0 kj9 a0 l1 x8_1 x9_1 x11_1 (x12_1 ++ [((rd_T75 l1 x13_1).f4)]) (wrap64 (x13_1 + 1))) else (none)) else (if ((rd_T75 l1 x13_1).f0) = 6 then (if 0 ≤ ((rd_T75 l1 x13_1).f3) then (if ((rd_T75 l1 x13_1).f3) < (x8_1.length : Int) then (if 0 ≤ ((rd_T75 l1 x13_1).f4) then (if ((rd_T75 l1 x13_1).f4) < (x8_1.length : Int) then ((impl_holds.f ((rd_T75 l1 x13_1).f2) a0 (rd x8_1 ((rd_T75 l1 x13_1).f3)) (rd x8_1 ((rd_T75 l1 x13_1).f4))).bind fun t363 => (if t363 = true then (if 0 ≤ x13_1 then (if x13_1 < (x9_1.length : Int) then (if 0 ≤ (wrap64 ((x12_1.length : Int) - 1)) then (if (wrap64 ((x12_1.length : Int) - 1)) ≤ (x12_1.length : Int) then (impl_alone.l0 kj9 a0 l1 x8_1 x9_1 x11_1 (x12_1.take ((wrap64 ((x12_1.length : Int) - 1)) : Int).toNat) (wrap64 ((rd x9_1 x13_1) + 1))) else (none)) else (none)) else (none)) else (none)) else (impl_alone.l0 kj9 a0 l1 x8_1 x9_1 x11_1 x12_1 (wrap64 (x13_1 + 1))))) else (none)) else (none)) else (none)) else (none)) else (if ((rd_T75 l1 x13_1).f0) = 4 then (if 0 ≤ x13_1 then (if x13_1 < (x9_1.length : Int) then (if 0 ≤ (rd x9_1 x13_1) then (if (rd x9_1 x13_1) < (l1.length : Int) then (if ((rd_T75 l1 (rd x9_1 x13_1)).f0) = 5 then (if 0 ≤ (wrap64 ((x12_1.length : Int) - 1)) then (if (wrap64 ((x12_1.length : Int) - 1)) < (x12_1.length : Int) then ((some (x12_1.set ((wrap64 ((x12_1.length : Int) - 1)) : Int).toNat (wrap64 ((rd x12_1 (wrap64 ((x12_1.length : Int) - 1))) - 1)) : List Int)).bind fun y371 => (if (rd y371 (wrap64 ((x12_1.length : Int) - 1))) > 0 then (impl_alone.l0 kj9 a0 l1 x8_1 x9_1 x11_1 y371 (wrap64 ((rd x9_1 x13_1) + 1))) else (if (wrap64 ((x12_1.length : Int) - 1)) ≤ (x12_1.length : Int) then (impl_alone.l0 kj9 a0 l1 x8_1 x9_1 x11_1 (y371.take ((wrap64 ((x12_1.length : Int) - 1)) : Int).toNat) (wrap64 (x13_1 + 1))) else (none)))) else (none)) else (none)) else (impl_alone.l0 kj9 a0 l1 x8_1 x9_1 x11_1 x12_1 (wrap64 (x13_1 + 1)))) else (none)) else (none)) else (none)) else (none)) else (impl_alone.l0 kj9 a0 l1 x8_1 x9_1 x11_1 x12_1 (wrap64 (x13_1 + 1)))))))) = some (r1, r2) := by rw [if_neg (show ¬ (false = true) by decide)] at H; exact H
       clear H
       have H := H1
       clear H1
       by_cases c21 : ((rd_T75 l1 x13_1).f0) = 2
       ·
        rw [if_pos c21] at H
        have c21b0 : (((rd_T75 l1 x13_1).f0) == 2) = true := beq_iff_eq.mpr c21
        have c21b1 : (((rd_T75 l1 x13_1).f0) != 2) = false := bne_eq_false_iff_eq.mpr c21
        clear c21
        replace H := ifp H; obtain ⟨c22, H⟩ := H
        have c22b0 : decide (0 ≤ ((rd_T75 l1 x13_1).f3)) = true := decide_eq_true c22
        clear c22
        replace H := ifp H; obtain ⟨c23, H⟩ := H
        have c23b0 : decide (((rd_T75 l1 x13_1).f3) < (x8_1.length : Int)) = true := decide_eq_true c23
        clear c23
        replace H := ifp H; obtain ⟨c24, H⟩ := H
        have c24b0 : decide (0 ≤ ((rd_T75 l1 x13_1).f4)) = true := decide_eq_true c24
        clear c24
        replace H := ifp H; obtain ⟨c25, H⟩ := H
        have c25b0 : decide (((rd_T75 l1 x13_1).f4) < (x8_1.length : Int)) = true := decide_eq_true c25
        clear c25
        replace H := Option.bind_eq_some_iff.mp H
        obtain ⟨t355, A260, H⟩ := H
        replace H : (if t355 = true then (impl_alone.l0 kj9 a0 l1 x8_1 x9_1 x11_1 x12_1 (wrap64 (x13_1 + 1))) else (if 0 ≤ x13_1 then (if x13_1 < (x9_1.length : Int) then (impl_alone.l0 kj9 a0 l1 x8_1 x9_1 x11_1 x12_1 (wrap64 ((rd x9_1 x13_1) + 1))) else (none)) else (none))) = some (r1, r2) := H
        have A26 := am A260
        clear A260
        by_cases c27 : t355 = true
        ·
         subst c27
         have H1 : (impl_alone.l0 kj9 a0 l1 x8_1 x9_1 x11_1 x12_1 (wrap64 (x13_1 + 1))) = some (r1, r2) := by rw [if_pos rfl] at H; exact H
         clear H
         have H := H1
         clear H1; have H' := am H; clear H
         obtain ⟨hcz28_0, hcz28_1, hcz28_2, hcz28_3, hcz28_4, hfz28_0, hfz28_1, hfz28_2, hfz28_3, hfz28_4⟩ := bx5 BK348.out
         obtain ⟨Ao29, co29, eo29⟩ := Kd.R_slice HO_8.out
         subst eo29
         have p353 : 0 ≤ (((rd_T75 l1 x13_1).f3) : Int) := od (by assumption)
         have q353 : ((rd_T75 l1 x13_1).f3) < (x8_1.length : Int) := od (by assumption)
         obtain ⟨ad353, e353, hx353_0⟩ := Kd.at_int (Kd.R_reads' HO_8.out).2.2 ((rd_T75 l1 x13_1).f3) p353 q353
         cases e353
         replace p353 := eq_true p353; replace q353 := eq_true q353
         have p354 : 0 ≤ (((rd_T75 l1 x13_1).f4) : Int) := od (by assumption)
         have q354 : ((rd_T75 l1 x13_1).f4) < (x8_1.length : Int) := od (by assumption)
         obtain ⟨ad354, e354, hx354_0⟩ := Kd.at_int (Kd.R_reads' HO_8.out).2.2 ((rd_T75 l1 x13_1).f4) p354 q354
         obtain rfl : ad353 = ad354 := (by injection e354)
         replace p354 := eq_true p354; replace q354 := eq_true q354
         go_wp2_with (first | (go_at_call 106; (with_reducible refine (impl_holds.calls ((rd_T75 l1 x13_1).f2) a0 (rd x8_1 ((rd_T75 l1 x13_1).f3)) (rd x8_1 ((rd_T75 l1 x13_1).f4)) true _ A26.out).mono ?_); rintro e w' ⟨rfl, ⟨nd, rfl⟩⟩; (try first | exact ⟨rfl, _, World.drewN_drewN _ _ _⟩ | exact ⟨rfl, _, Eq.trans (World.drewN_drewN _ _ _) (congrArg (World.drewN _) (Nat.add_assoc _ _ _))⟩)))
         repeat (go_quiet (first | (go_at_call 106; (with_reducible refine (impl_holds.calls ((rd_T75 l1 x13_1).f2) a0 (rd x8_1 ((rd_T75 l1 x13_1).f3)) (rd x8_1 ((rd_T75 l1 x13_1).f4)) true _ A26.out).mono ?_); rintro e w' ⟨rfl, ⟨nd, rfl⟩⟩; (try first | exact ⟨rfl, _, World.drewN_drewN _ _ _⟩ | exact ⟨rfl, _, Eq.trans (World.drewN_drewN _ _ _) (congrArg (World.drewN _) (Nat.add_assoc _ _ _))⟩))); try go_wp2_with (first | (go_at_call 106; (with_reducible refine (impl_holds.calls ((rd_T75 l1 x13_1).f2) a0 (rd x8_1 ((rd_T75 l1 x13_1).f3)) (rd x8_1 ((rd_T75 l1 x13_1).f4)) true _ A26.out).mono ?_); rintro e w' ⟨rfl, ⟨nd, rfl⟩⟩; (try first | exact ⟨rfl, _, World.drewN_drewN _ _ _⟩ | exact ⟨rfl, _, Eq.trans (World.drewN_drewN _ _ _) (congrArg (World.drewN _) (Nat.add_assoc _ _ _))⟩))))
         go_roundg kj9
         case measure => have := HK1.out; have := HJ9.out; omega
         case rel => exact ⟨(x8_1), (x9_1), (x11_1), (x12_1), (wrap64 (x13_1 + 1)), (by first | rfl | (simp; done) | (simp [*]; done)), H', ⟨by have := HK1.out; have := HJ9.out; omega⟩, ⟨by first | exact rst HO_8.out | exact Kd.R_mono (rst HO_8.out) (by intro k_ hk_; simpa only [ob_eq] using hk_)⟩, ⟨by first | exact rst HO_9.out | exact Kd.R_mono (rst HO_9.out) (by intro k_ hk_; simpa only [ob_eq] using hk_)⟩, ⟨by first | exact rst HO_11.out | exact Kd.R_mono (rst HO_11.out) (by intro k_ hk_; simpa only [ob_eq] using hk_)⟩, ⟨by first | exact rst HO_12.out | exact Kd.R_mono (rst HO_12.out) (by intro k_ hk_; simpa only [ob_eq] using hk_)⟩, ⟨by repeat (first | (with_reducible first | exact HB.out | apply below_alloc | apply pw_below_drewN | apply below_drew1 | refine below_set ?_ GE348.out) | exact HB.out)⟩⟩
        ·
         replace c27 := Bool.eq_false_iff.mpr c27
         subst c27
         have H1 : (if 0 ≤ x13_1 then (if x13_1 < (x9_1.length : Int) then (impl_alone.l0 kj9 a0 l1 x8_1 x9_1 x11_1 x12_1 (wrap64 ((rd x9_1 x13_1) + 1))) else (none)) else (none)) = some (r1, r2) := by rw [if_neg (show ¬ (false = true) by decide)] at H; exact H
         clear H
         have H := H1
         clear H1
         replace H := ifp H; obtain ⟨c30, H⟩ := H
         have c30b0 : decide (0 ≤ x13_1) = true := decide_eq_true c30
         clear c30
         replace H := ifp H; obtain ⟨c31, H⟩ := H
         have c31b0 : decide (x13_1 < (x9_1.length : Int)) = true := decide_eq_true c31
         clear c31; have H' := am H; clear H
         obtain ⟨hcz32_0, hcz32_1, hcz32_2, hcz32_3, hcz32_4, hfz32_0, hfz32_1, hfz32_2, hfz32_3, hfz32_4⟩ := bx5 BK348.out
         obtain ⟨Ao33, co33, eo33⟩ := Kd.R_slice HO_8.out
         subst eo33
         have p353 : 0 ≤ (((rd_T75 l1 x13_1).f3) : Int) := od (by assumption)
         have q353 : ((rd_T75 l1 x13_1).f3) < (x8_1.length : Int) := od (by assumption)
         obtain ⟨ad353, e353, hx353_0⟩ := Kd.at_int (Kd.R_reads' HO_8.out).2.2 ((rd_T75 l1 x13_1).f3) p353 q353
         cases e353
         replace p353 := eq_true p353; replace q353 := eq_true q353
         have p354 : 0 ≤ (((rd_T75 l1 x13_1).f4) : Int) := od (by assumption)
         have q354 : ((rd_T75 l1 x13_1).f4) < (x8_1.length : Int) := od (by assumption)
         obtain ⟨ad354, e354, hx354_0⟩ := Kd.at_int (Kd.R_reads' HO_8.out).2.2 ((rd_T75 l1 x13_1).f4) p354 q354
         obtain rfl : ad353 = ad354 := (by injection e354)
         replace p354 := eq_true p354; replace q354 := eq_true q354
         go_wp2_with (first | (go_at_call 106; (with_reducible refine (impl_holds.calls ((rd_T75 l1 x13_1).f2) a0 (rd x8_1 ((rd_T75 l1 x13_1).f3)) (rd x8_1 ((rd_T75 l1 x13_1).f4)) false _ A26.out).mono ?_); rintro e w' ⟨rfl, ⟨nd, rfl⟩⟩; (try first | exact ⟨rfl, _, World.drewN_drewN _ _ _⟩ | exact ⟨rfl, _, Eq.trans (World.drewN_drewN _ _ _) (congrArg (World.drewN _) (Nat.add_assoc _ _ _))⟩); obtain ⟨Ao34, co34, eo34⟩ := Kd.R_slice HO_9.out; subst eo34; have p356 : 0 ≤ (x13_1 : Int) := od (by assumption); have q356 : x13_1 < (x9_1.length : Int) := od (by assumption); obtain ⟨ad356, e356, hx356_0⟩ := Kd.at_int (Kd.R_reads' HO_9.out).2.2 x13_1 p356 q356; cases e356; replace p356 := eq_true p356; replace q356 := eq_true q356))
         repeat (go_quiet (first | (go_at_call 106; (with_reducible refine (impl_holds.calls ((rd_T75 l1 x13_1).f2) a0 (rd x8_1 ((rd_T75 l1 x13_1).f3)) (rd x8_1 ((rd_T75 l1 x13_1).f4)) false _ A26.out).mono ?_); rintro e w' ⟨rfl, ⟨nd, rfl⟩⟩; (try first | exact ⟨rfl, _, World.drewN_drewN _ _ _⟩ | exact ⟨rfl, _, Eq.trans (World.drewN_drewN _ _ _) (congrArg (World.drewN _) (Nat.add_assoc _ _ _))⟩); obtain ⟨Ao34, co34, eo34⟩ := Kd.R_slice HO_9.out; subst eo34; have p356 : 0 ≤ (x13_1 : Int) := od (by assumption); have q356 : x13_1 < (x9_1.length : Int) := od (by assumption); obtain ⟨ad356, e356, hx356_0⟩ := Kd.at_int (Kd.R_reads' HO_9.out).2.2 x13_1 p356 q356; cases e356; replace p356 := eq_true p356; replace q356 := eq_true q356)); try go_wp2_with (first | (go_at_call 106; (with_reducible refine (impl_holds.calls ((rd_T75 l1 x13_1).f2) a0 (rd x8_1 ((rd_T75 l1 x13_1).f3)) (rd x8_1 ((rd_T75 l1 x13_1).f4)) false _ A26.out).mono ?_); rintro e w' ⟨rfl, ⟨nd, rfl⟩⟩; (try first | exact ⟨rfl, _, World.drewN_drewN _ _ _⟩ | exact ⟨rfl, _, Eq.trans (World.drewN_drewN _ _ _) (congrArg (World.drewN _) (Nat.add_assoc _ _ _))⟩); obtain ⟨Ao34, co34, eo34⟩ := Kd.R_slice HO_9.out; subst eo34; have p356 : 0 ≤ (x13_1 : Int) := od (by assumption); have q356 : x13_1 < (x9_1.length : Int) := od (by assumption); obtain ⟨ad356, e356, hx356_0⟩ := Kd.at_int (Kd.R_reads' HO_9.out).2.2 x13_1 p356 q356; cases e356; replace p356 := eq_true p356; replace q356 := eq_true q356)))
         go_roundg kj9
         case measure => have := HK1.out; have := HJ9.out; omega
         case rel => exact ⟨(x8_1), (x9_1), (x11_1), (x12_1), (wrap64 ((rd x9_1 x13_1) + 1)), (by first | rfl | (simp; done) | (simp [*]; done)), H', ⟨by have := HK1.out; have := HJ9.out; omega⟩, ⟨by first | exact rst HO_8.out | exact Kd.R_mono (rst HO_8.out) (by intro k_ hk_; simpa only [ob_eq] using hk_)⟩, ⟨by first | exact rst HO_9.out | exact Kd.R_mono (rst HO_9.out) (by intro k_ hk_; simpa only [ob_eq] using hk_)⟩, ⟨by first | exact rst HO_11.out | exact Kd.R_mono (rst HO_11.out) (by intro k_ hk_; simpa only [ob_eq] using hk_)⟩, ⟨by first | exact rst HO_12.out | exact Kd.R_mono (rst HO_12.out) (by intro k_ hk_; simpa only [ob_eq] using hk_)⟩, ⟨by repeat (first | (with_reducible first | exact HB.out | apply below_alloc | apply pw_below_drewN | apply below_drew1 | refine below_set ?_ GE348.out) | exact HB.out)⟩⟩
       ·
        rw [if_neg c21] at H
        have c21b0 : (((rd_T75 l1 x13_1).f0) == 2) = false := beq_eq_false_iff_ne.mpr c21
        have c21b1 : (((rd_T75 l1 x13_1).f0) != 2) = true := bne_iff_ne.mpr c21
        by_cases c35 : ((rd_T75 l1 x13_1).f0) = 3
        ·
         rw [if_pos c35] at H
         have c35b0 : (((rd_T75 l1 x13_1).f0) == 3) = true := beq_iff_eq.mpr c35
         have c35b1 : (((rd_T75 l1 x13_1).f0) != 3) = false := bne_eq_false_iff_eq.mpr c35
         clear c35
         replace H := ifp H; obtain ⟨c36, H⟩ := H
         have c36b0 : decide (0 ≤ x13_1) = true := decide_eq_true c36
         clear c36
         replace H := ifp H; obtain ⟨c37, H⟩ := H
         have c37b0 : decide (x13_1 < (x9_1.length : Int)) = true := decide_eq_true c37
         clear c37; have H' := am H; clear H
         obtain ⟨Ao38, co38, eo38⟩ := Kd.R_slice HO_9.out
         subst eo38
         have p357 : 0 ≤ (x13_1 : Int) := od (by assumption)
         have q357 : x13_1 < (x9_1.length : Int) := od (by assumption)
         obtain ⟨ad357, e357, hx357_0⟩ := Kd.at_int (Kd.R_reads' HO_9.out).2.2 x13_1 p357 q357
         cases e357
         replace p357 := eq_true p357; replace q357 := eq_true q357
         go_wp2
         go_roundg kj9
         case measure => have := HK1.out; have := HJ9.out; omega
         case rel => exact ⟨(x8_1), (x9_1), (x11_1), (x12_1), (wrap64 ((rd x9_1 x13_1) + 1)), (by first | rfl | (simp; done) | (simp [*]; done)), H', ⟨by have := HK1.out; have := HJ9.out; omega⟩, ⟨by first | exact rst HO_8.out | exact Kd.R_mono (rst HO_8.out) (by intro k_ hk_; simpa only [ob_eq] using hk_)⟩, ⟨by first | exact rst HO_9.out | exact Kd.R_mono (rst HO_9.out) (by intro k_ hk_; simpa only [ob_eq] using hk_)⟩, ⟨by first | exact rst HO_11.out | exact Kd.R_mono (rst HO_11.out) (by intro k_ hk_; simpa only [ob_eq] using hk_)⟩, ⟨by first | exact rst HO_12.out | exact Kd.R_mono (rst HO_12.out) (by intro k_ hk_; simpa only [ob_eq] using hk_)⟩, ⟨by repeat (first | (with_reducible first | exact HB.out | apply below_alloc | apply pw_below_drewN | apply below_drew1 | refine below_set ?_ GE348.out) | exact HB.out)⟩⟩
        ·
         rw [if_neg c35] at H
         have c35b0 : (((rd_T75 l1 x13_1).f0) == 3) = false := beq_eq_false_iff_ne.mpr c35
         have c35b1 : (((rd_T75 l1 x13_1).f0) != 3) = true := bne_iff_ne.mpr c35
         by_cases c39 : ((rd_T75 l1 x13_1).f0) = 5
         ·
          rw [if_pos c39] at H
          have c39b0 : (((rd_T75 l1 x13_1).f0) == 5) = true := beq_iff_eq.mpr c39
          have c39b1 : (((rd_T75 l1 x13_1).f0) != 5) = false := bne_eq_false_iff_eq.mpr c39
          clear c39
          replace H := ifp H; obtain ⟨c40, H⟩ := H
          have LMc40 := am c40
          clear c40
          obtain ⟨y358, hy358⟩ : ∃ y_ : List Int, y_ = (x12_1 ++ [((rd_T75 l1 x13_1).f4)]) := ⟨_, rfl⟩
          replace H : (impl_alone.l0 kj9 a0 l1 x8_1 x9_1 x11_1 y358 (wrap64 (x13_1 + 1))) = some (r1, r2) := by first | (rw [hy358]; with_reducible exact H) | (have H2_ := bsm H; rw [hy358]; with_reducible exact H2_) | (have H2_ := bsm H; exact H2_) | (rw [hy358]; exact H) | exact H
          have Ny358 := am hy358; clear hy358; have H' := am H; clear H
          obtain ⟨hcz41_0, hcz41_1, hcz41_2, hcz41_3, hcz41_4, hfz41_0, hfz41_1, hfz41_2, hfz41_3, hfz41_4⟩ := bx5 BK348.out
          go_wp2_with (first | ((with_reducible refine gate_builtin (b := .append) (xs := #[.tmp 76, .tmp 79]) rfl ?_); at_builtin; refine Kd.R_append (Kd.int .i64) (w0 := w) w.heap.size rfl (.tmp 76) (.tmp 79) 22 2 (.int .i64 0) 8 rfl Try.underlying22 info2 rfl (by decide) (by omega) u12 x12_1 ((rd_T75 l1 x13_1).f4) [.int .i64 ((rd_T75 l1 x13_1).f4)] (fun k_ => some k_ ≠ (v341 : Value).ownBlock ∧ some k_ ≠ (v345 : Value).ownBlock ∧ some k_ ≠ (u11 : Value).ownBlock) (fun _ => False) rfl rfl ?aP (fun _ hk => hk.elim) ?aF ?aO ?aB ?aS ?aL ?_; (case aP => exact rfl); (case aB => exact (by repeat (first | (with_reducible first | exact HB.out | apply below_alloc | apply pw_below_drewN | apply below_drew1 | refine below_set ?_ GE348.out) | exact HB.out))); (case aF => exact (fun k_ hk => ⟨Kd.fresh' (Kd.R_lt (rst HO_8.out)) k_ hk, Kd.fresh' (Kd.R_lt (rst HO_9.out)) k_ hk, Kd.fresh' (Kd.R_lt (rst HO_11.out)) k_ hk⟩)); (case aO => exact (rst HO_12.out)); (case aS => exact (below_size (by repeat (first | (with_reducible first | exact HB.out | apply below_alloc | apply pw_below_drewN | apply below_drew1 | refine below_set ?_ GE348.out) | exact HB.out)))); (case aL => have := LMc40.out; omega); intro v359 w42 ho hb hg hat; rw [← Ny358.out] at ho; have n0_ := am (Kd.R_after (ok := (fun k_ => some k_ ≠ (v345 : Value).ownBlock ∧ some k_ ≠ (u11 : Value).ownBlock)) (rst (Kd.R_mono HO_8.out (fun _ hk => ⟨⟨hk.1, hk.2.1⟩, hk.2.2⟩))) hg hat); have n1_ := am (Kd.R_after (ok := (fun k_ => some k_ ≠ (v341 : Value).ownBlock ∧ some k_ ≠ (u11 : Value).ownBlock)) (rst (Kd.R_mono HO_9.out (fun _ hk => ⟨⟨hk.1, hk.2.1⟩, hk.2.2⟩))) hg hat); have n2_ := am (Kd.R_after (ok := (fun k_ => some k_ ≠ (v341 : Value).ownBlock ∧ some k_ ≠ (v345 : Value).ownBlock)) (rst (Kd.R_mono HO_11.out (fun _ hk => ⟨⟨hk.1, hk.2.1⟩, hk.2.2⟩))) hg hat); have n3_ := am (blk_grown (g := gb348) (o := .cells #[.int .i64 ((rd_T75 l1 x13_1).f0), .int .i64 ((rd_T75 l1 x13_1).f1), .int .i64 ((rd_T75 l1 x13_1).f2), .int .i64 ((rd_T75 l1 x13_1).f3), .int .i64 ((rd_T75 l1 x13_1).f4)] 75 (0, 0)) (by (with_reducible repeat (first | refine blk_drewN ?_ _ | refine blk_drew ?_ | refine blk_alloc ?_ _)); exact BK348.out) hg (Kd.R_ne HO_12.out BK348.out (by decide))); have n4_ := am (hb); have n5_ := am (ho); clear HO_8; clear HO_9; clear HO_11; clear BK348; clear HB; clear HO_12; have HO_8 := n0_; have HO_9 := n1_; have HO_11 := n2_; have BK348 := n3_; have HB := n4_; have HO360 := n5_; clear n0_ n1_ n2_ n3_ n4_ n5_; clear ho hb hg hat))
          go_roundg kj9
          case measure => have := HK1.out; have := HJ9.out; omega
          case rel => exact ⟨(x8_1), (x9_1), (x11_1), (y358), (wrap64 (x13_1 + 1)), (by first | rfl | (simp; done) | (simp [*]; done)), H', ⟨by have := HK1.out; have := HJ9.out; omega⟩, ⟨by first | exact rst (Kd.R_mono HO_8.out (fun _ hk => ⟨hk.1.1, ⟨hk.1.2, hk.2⟩⟩)) | exact Kd.R_mono (rst (Kd.R_mono HO_8.out (fun _ hk => ⟨hk.1.1, ⟨hk.1.2, hk.2⟩⟩))) (by intro k_ hk_; simpa only [ob_eq] using hk_)⟩, ⟨by first | exact rst (Kd.R_mono HO_9.out (fun _ hk => ⟨hk.1.1, ⟨hk.1.2, hk.2⟩⟩)) | exact Kd.R_mono (rst (Kd.R_mono HO_9.out (fun _ hk => ⟨hk.1.1, ⟨hk.1.2, hk.2⟩⟩))) (by intro k_ hk_; simpa only [ob_eq] using hk_)⟩, ⟨by first | exact rst (Kd.R_mono HO_11.out (fun _ hk => ⟨hk.1.1, ⟨hk.1.2, hk.2⟩⟩)) | exact Kd.R_mono (rst (Kd.R_mono HO_11.out (fun _ hk => ⟨hk.1.1, ⟨hk.1.2, hk.2⟩⟩))) (by intro k_ hk_; simpa only [ob_eq] using hk_)⟩, ⟨by first | exact rst HO360.out | exact Kd.R_mono (rst HO360.out) (by intro k_ hk_; simpa only [ob_eq] using hk_)⟩, ⟨by repeat (first | (with_reducible first | exact HB.out | apply below_alloc | apply pw_below_drewN | apply below_drew1 | refine below_set ?_ GE348.out) | exact HB.out)⟩⟩
         ·
          rw [if_neg c39] at H
          have c39b0 : (((rd_T75 l1 x13_1).f0) == 5) = false := beq_eq_false_iff_ne.mpr c39
          have c39b1 : (((rd_T75 l1 x13_1).f0) != 5) = true := bne_iff_ne.mpr c39
          by_cases c43 : ((rd_T75 l1 x13_1).f0) = 6
          ·
           rw [if_pos c43] at H
           have c43b0 : (((rd_T75 l1 x13_1).f0) == 6) = true := beq_iff_eq.mpr c43
           have c43b1 : (((rd_T75 l1 x13_1).f0) != 6) = false := bne_eq_false_iff_eq.mpr c43
           clear c43
           replace H := ifp H; obtain ⟨c44, H⟩ := H
           have c44b0 : decide (0 ≤ ((rd_T75 l1 x13_1).f3)) = true := decide_eq_true c44
           clear c44
           replace H := ifp H; obtain ⟨c45, H⟩ := H
           have c45b0 : decide (((rd_T75 l1 x13_1).f3) < (x8_1.length : Int)) = true := decide_eq_true c45
           clear c45
           replace H := ifp H; obtain ⟨c46, H⟩ := H
           have c46b0 : decide (0 ≤ ((rd_T75 l1 x13_1).f4)) = true := decide_eq_true c46
           clear c46
           replace H := ifp H; obtain ⟨c47, H⟩ := H
           have c47b0 : decide (((rd_T75 l1 x13_1).f4) < (x8_1.length : Int)) = true := decide_eq_true c47
           clear c47
           replace H := Option.bind_eq_some_iff.mp H
           obtain ⟨t363, A480, H⟩ := H
           replace H : (if t363 = true then (if 0 ≤ x13_1 then (if x13_1 < (x9_1.length : Int) then (if 0 ≤ (wrap64 ((x12_1.length : Int) - 1)) then (if (wrap64 ((x12_1.length : Int) - 1)) ≤ (x12_1.length : Int) then (impl_alone.l0 kj9 a0 l1 x8_1 x9_1 x11_1 (x12_1.take ((wrap64 ((x12_1.length : Int) - 1)) : Int).toNat) (wrap64 ((rd x9_1 x13_1) + 1))) else (none)) else (none)) else (none)) else (none)) else (impl_alone.l0 kj9 a0 l1 x8_1 x9_1 x11_1 x12_1 (wrap64 (x13_1 + 1)))) = some (r1, r2) := H
           have A48 := am A480
           clear A480
           by_cases c49 : t363 = true
           ·
            subst c49
            have H1 : (if 0 ≤ x13_1 then (if x13_1 < (x9_1.length : Int) then (if 0 ≤ (wrap64 ((x12_1.length : Int) - 1)) then (if (wrap64 ((x12_1.length : Int) - 1)) ≤ (x12_1.length : Int) then (impl_alone.l0 kj9 a0 l1 x8_1 x9_1 x11_1 (x12_1.take ((wrap64 ((x12_1.length : Int) - 1)) : Int).toNat) (wrap64 ((rd x9_1 x13_1) + 1))) else (none)) else (none)) else (none)) else (none)) = some (r1, r2) := by rw [if_pos rfl] at H; exact H
            clear H
            have H := H1
            clear H1
            replace H := ifp H; obtain ⟨c50, H⟩ := H
            have c50b0 : decide (0 ≤ x13_1) = true := decide_eq_true c50
            clear c50
            replace H := ifp H; obtain ⟨c51, H⟩ := H
            have c51b0 : decide (x13_1 < (x9_1.length : Int)) = true := decide_eq_true c51
            clear c51
            obtain ⟨ji52, hji52⟩ : ∃ j_ : Int, (wrap64 ((x12_1.length : Int) - 1)) = j_ := ⟨_, rfl⟩
            replace H : (if 0 ≤ (ji52) then (if (ji52) ≤ (x12_1.length : Int) then (impl_alone.l0 kj9 a0 l1 x8_1 x9_1 x11_1 (x12_1.take ((ji52) : Int).toNat) (wrap64 ((rd x9_1 x13_1) + 1))) else (none)) else (none)) = some (r1, r2) := by first | (rw [hji52] at H; exact H) | (simp only [hji52] at H ⊢; exact H)
            (try rw [hji52] at A48)
            have hji52w : (IntKind.i64.wrap ((x12_1.length : Int) - 1)) = ji52 := (i64_w _).trans hji52
            replace H := ifp H; obtain ⟨c53, H⟩ := H
            have c53b0 := eq_true c53
            have c53b1 : decide (0 ≤ (ji52)) = true := decide_eq_true c53
            clear c53
            replace H := ifp H; obtain ⟨c54, H⟩ := H
            have c54b0 := eq_true c54
            have c54b1 : decide ((ji52) ≤ (x12_1.length : Int)) = true := decide_eq_true c54
            clear c54
            obtain ⟨y365, hy365⟩ : ∃ y_ : List Int, y_ = (x12_1.take ((ji52) : Int).toNat) := ⟨_, rfl⟩
            replace H : (impl_alone.l0 kj9 a0 l1 x8_1 x9_1 x11_1 y365 (wrap64 ((rd x9_1 x13_1) + 1))) = some (r1, r2) := by first | (rw [hy365]; with_reducible exact H) | (have H2_ := bsm H; rw [hy365]; with_reducible exact H2_) | (have H2_ := bsm H; exact H2_) | (rw [hy365]; exact H) | exact H
            have Ny365 := am hy365; clear hy365; have H' := am H; clear H
            obtain ⟨hcz55_0, hcz55_1, hcz55_2, hcz55_3, hcz55_4, hfz55_0, hfz55_1, hfz55_2, hfz55_3, hfz55_4⟩ := bx5 BK348.out
            obtain ⟨Ao56, co56, eo56⟩ := Kd.R_slice HO_8.out
            subst eo56
            have p361 : 0 ≤ (((rd_T75 l1 x13_1).f3) : Int) := od (by assumption)
            have q361 : ((rd_T75 l1 x13_1).f3) < (x8_1.length : Int) := od (by assumption)
            obtain ⟨ad361, e361, hx361_0⟩ := Kd.at_int (Kd.R_reads' HO_8.out).2.2 ((rd_T75 l1 x13_1).f3) p361 q361
            cases e361
            replace p361 := eq_true p361; replace q361 := eq_true q361
            have p362 : 0 ≤ (((rd_T75 l1 x13_1).f4) : Int) := od (by assumption)
            have q362 : ((rd_T75 l1 x13_1).f4) < (x8_1.length : Int) := od (by assumption)
            obtain ⟨ad362, e362, hx362_0⟩ := Kd.at_int (Kd.R_reads' HO_8.out).2.2 ((rd_T75 l1 x13_1).f4) p362 q362
            obtain rfl : ad361 = ad362 := (by injection e362)
            replace p362 := eq_true p362; replace q362 := eq_true q362
            go_wp2_with (first | (go_at_call 106; (with_reducible refine (impl_holds.calls ((rd_T75 l1 x13_1).f2) a0 (rd x8_1 ((rd_T75 l1 x13_1).f3)) (rd x8_1 ((rd_T75 l1 x13_1).f4)) true _ A48.out).mono ?_); rintro e w' ⟨rfl, ⟨nd, rfl⟩⟩; (try first | exact ⟨rfl, _, World.drewN_drewN _ _ _⟩ | exact ⟨rfl, _, Eq.trans (World.drewN_drewN _ _ _) (congrArg (World.drewN _) (Nat.add_assoc _ _ _))⟩); obtain ⟨Ao57, co57, eo57⟩ := Kd.R_slice HO_9.out; subst eo57; have p364 : 0 ≤ (x13_1 : Int) := od (by assumption); have q364 : x13_1 < (x9_1.length : Int) := od (by assumption); obtain ⟨ad364, e364, hx364_0⟩ := Kd.at_int (Kd.R_reads' HO_9.out).2.2 x13_1 p364 q364; cases e364; replace p364 := eq_true p364; replace q364 := eq_true q364; obtain ⟨Ao58, co58, eo58⟩ := Kd.R_slice HO_12.out; subst eo58; have q59 : ((ji52) : Int) ≤ ((x12_1.length : Int) : Int) := od (by assumption); obtain ⟨i059, hi059, _, hsz59, _⟩ := info_parts info2; have hcut59 := cut_to (P := Try.prog) 22 2 .i64 Try.underlying22 hi059 Ao58 x12_1.length co58 (ji52) (od (by assumption)) q59 (Kd.R_reads' HO_12.out).2.1; have hr59 := Kd.R_take (m := ((ji52) : Int).toNat) HO_12.out (by have e_ := (Kd.R_reads' HO_12.out).1; omega); have hy59 : y365.length = ((ji52) : Int).toNat := (by have e_ := (Kd.R_reads' HO_12.out).1; rw [Ny365.out, List.length_take]; omega); rw [← Ny365.out] at hr59; rw [← hy59] at hr59 hcut59; clear hy59 hi059 hsz59 HO_12; have HO367 := am hr59; clear hr59; replace q59 := eq_true q59))
            repeat (go_quiet (first | (go_at_call 106; (with_reducible refine (impl_holds.calls ((rd_T75 l1 x13_1).f2) a0 (rd x8_1 ((rd_T75 l1 x13_1).f3)) (rd x8_1 ((rd_T75 l1 x13_1).f4)) true _ A48.out).mono ?_); rintro e w' ⟨rfl, ⟨nd, rfl⟩⟩; (try first | exact ⟨rfl, _, World.drewN_drewN _ _ _⟩ | exact ⟨rfl, _, Eq.trans (World.drewN_drewN _ _ _) (congrArg (World.drewN _) (Nat.add_assoc _ _ _))⟩); obtain ⟨Ao57, co57, eo57⟩ := Kd.R_slice HO_9.out; subst eo57; have p364 : 0 ≤ (x13_1 : Int) := od (by assumption); have q364 : x13_1 < (x9_1.length : Int) := od (by assumption); obtain ⟨ad364, e364, hx364_0⟩ := Kd.at_int (Kd.R_reads' HO_9.out).2.2 x13_1 p364 q364; cases e364; replace p364 := eq_true p364; replace q364 := eq_true q364; obtain ⟨Ao58, co58, eo58⟩ := Kd.R_slice HO_12.out; subst eo58; have q59 : ((ji52) : Int) ≤ ((x12_1.length : Int) : Int) := od (by assumption); obtain ⟨i059, hi059, _, hsz59, _⟩ := info_parts info2; have hcut59 := cut_to (P := Try.prog) 22 2 .i64 Try.underlying22 hi059 Ao58 x12_1.length co58 (ji52) (od (by assumption)) q59 (Kd.R_reads' HO_12.out).2.1; have hr59 := Kd.R_take (m := ((ji52) : Int).toNat) HO_12.out (by have e_ := (Kd.R_reads' HO_12.out).1; omega); have hy59 : y365.length = ((ji52) : Int).toNat := (by have e_ := (Kd.R_reads' HO_12.out).1; rw [Ny365.out, List.length_take]; omega); rw [← Ny365.out] at hr59; rw [← hy59] at hr59 hcut59; clear hy59 hi059 hsz59 HO_12; have HO367 := am hr59; clear hr59; replace q59 := eq_true q59)); try go_wp2_with (first | (go_at_call 106; (with_reducible refine (impl_holds.calls ((rd_T75 l1 x13_1).f2) a0 (rd x8_1 ((rd_T75 l1 x13_1).f3)) (rd x8_1 ((rd_T75 l1 x13_1).f4)) true _ A48.out).mono ?_); rintro e w' ⟨rfl, ⟨nd, rfl⟩⟩; (try first | exact ⟨rfl, _, World.drewN_drewN _ _ _⟩ | exact ⟨rfl, _, Eq.trans (World.drewN_drewN _ _ _) (congrArg (World.drewN _) (Nat.add_assoc _ _ _))⟩); obtain ⟨Ao57, co57, eo57⟩ := Kd.R_slice HO_9.out; subst eo57; have p364 : 0 ≤ (x13_1 : Int) := od (by assumption); have q364 : x13_1 < (x9_1.length : Int) := od (by assumption); obtain ⟨ad364, e364, hx364_0⟩ := Kd.at_int (Kd.R_reads' HO_9.out).2.2 x13_1 p364 q364; cases e364; replace p364 := eq_true p364; replace q364 := eq_true q364; obtain ⟨Ao58, co58, eo58⟩ := Kd.R_slice HO_12.out; subst eo58; have q59 : ((ji52) : Int) ≤ ((x12_1.length : Int) : Int) := od (by assumption); obtain ⟨i059, hi059, _, hsz59, _⟩ := info_parts info2; have hcut59 := cut_to (P := Try.prog) 22 2 .i64 Try.underlying22 hi059 Ao58 x12_1.length co58 (ji52) (od (by assumption)) q59 (Kd.R_reads' HO_12.out).2.1; have hr59 := Kd.R_take (m := ((ji52) : Int).toNat) HO_12.out (by have e_ := (Kd.R_reads' HO_12.out).1; omega); have hy59 : y365.length = ((ji52) : Int).toNat := (by have e_ := (Kd.R_reads' HO_12.out).1; rw [Ny365.out, List.length_take]; omega); rw [← Ny365.out] at hr59; rw [← hy59] at hr59 hcut59; clear hy59 hi059 hsz59 HO_12; have HO367 := am hr59; clear hr59; replace q59 := eq_true q59)))
            go_roundg kj9
            case measure => have := HK1.out; have := HJ9.out; omega
            case rel => exact ⟨(x8_1), (x9_1), (x11_1), (y365), (wrap64 ((rd x9_1 x13_1) + 1)), (by first | rfl | (simp; done) | (simp [*]; done)), H', ⟨by have := HK1.out; have := HJ9.out; omega⟩, ⟨by first | exact rst HO_8.out | exact Kd.R_mono (rst HO_8.out) (by intro k_ hk_; simpa only [ob_eq] using hk_)⟩, ⟨by first | exact rst HO_9.out | exact Kd.R_mono (rst HO_9.out) (by intro k_ hk_; simpa only [ob_eq] using hk_)⟩, ⟨by first | exact rst HO_11.out | exact Kd.R_mono (rst HO_11.out) (by intro k_ hk_; simpa only [ob_eq] using hk_)⟩, ⟨by first | exact rst HO367.out | exact Kd.R_mono (rst HO367.out) (by intro k_ hk_; simpa only [ob_eq] using hk_)⟩, ⟨by repeat (first | (with_reducible first | exact HB.out | apply below_alloc | apply pw_below_drewN | apply below_drew1 | refine below_set ?_ GE348.out) | exact HB.out)⟩⟩
           ·
            replace c49 := Bool.eq_false_iff.mpr c49
            subst c49
            have H1 : (impl_alone.l0 kj9 a0 l1 x8_1 x9_1 x11_1 x12_1 (wrap64 (x13_1 + 1))) = some (r1, r2) := by rw [if_neg (show ¬ (false = true) by decide)] at H; exact H
            clear H
            have H := H1
            clear H1; have H' := am H; clear H
            obtain ⟨hcz60_0, hcz60_1, hcz60_2, hcz60_3, hcz60_4, hfz60_0, hfz60_1, hfz60_2, hfz60_3, hfz60_4⟩ := bx5 BK348.out
            obtain ⟨Ao61, co61, eo61⟩ := Kd.R_slice HO_8.out
            subst eo61
            have p361 : 0 ≤ (((rd_T75 l1 x13_1).f3) : Int) := od (by assumption)
            have q361 : ((rd_T75 l1 x13_1).f3) < (x8_1.length : Int) := od (by assumption)
            obtain ⟨ad361, e361, hx361_0⟩ := Kd.at_int (Kd.R_reads' HO_8.out).2.2 ((rd_T75 l1 x13_1).f3) p361 q361
            cases e361
            replace p361 := eq_true p361; replace q361 := eq_true q361
            have p362 : 0 ≤ (((rd_T75 l1 x13_1).f4) : Int) := od (by assumption)
            have q362 : ((rd_T75 l1 x13_1).f4) < (x8_1.length : Int) := od (by assumption)
            obtain ⟨ad362, e362, hx362_0⟩ := Kd.at_int (Kd.R_reads' HO_8.out).2.2 ((rd_T75 l1 x13_1).f4) p362 q362
            obtain rfl : ad361 = ad362 := (by injection e362)
            replace p362 := eq_true p362; replace q362 := eq_true q362
            go_wp2_with (first | (go_at_call 106; (with_reducible refine (impl_holds.calls ((rd_T75 l1 x13_1).f2) a0 (rd x8_1 ((rd_T75 l1 x13_1).f3)) (rd x8_1 ((rd_T75 l1 x13_1).f4)) false _ A48.out).mono ?_); rintro e w' ⟨rfl, ⟨nd, rfl⟩⟩; (try first | exact ⟨rfl, _, World.drewN_drewN _ _ _⟩ | exact ⟨rfl, _, Eq.trans (World.drewN_drewN _ _ _) (congrArg (World.drewN _) (Nat.add_assoc _ _ _))⟩)))
            repeat (go_quiet (first | (go_at_call 106; (with_reducible refine (impl_holds.calls ((rd_T75 l1 x13_1).f2) a0 (rd x8_1 ((rd_T75 l1 x13_1).f3)) (rd x8_1 ((rd_T75 l1 x13_1).f4)) false _ A48.out).mono ?_); rintro e w' ⟨rfl, ⟨nd, rfl⟩⟩; (try first | exact ⟨rfl, _, World.drewN_drewN _ _ _⟩ | exact ⟨rfl, _, Eq.trans (World.drewN_drewN _ _ _) (congrArg (World.drewN _) (Nat.add_assoc _ _ _))⟩))); try go_wp2_with (first | (go_at_call 106; (with_reducible refine (impl_holds.calls ((rd_T75 l1 x13_1).f2) a0 (rd x8_1 ((rd_T75 l1 x13_1).f3)) (rd x8_1 ((rd_T75 l1 x13_1).f4)) false _ A48.out).mono ?_); rintro e w' ⟨rfl, ⟨nd, rfl⟩⟩; (try first | exact ⟨rfl, _, World.drewN_drewN _ _ _⟩ | exact ⟨rfl, _, Eq.trans (World.drewN_drewN _ _ _) (congrArg (World.drewN _) (Nat.add_assoc _ _ _))⟩))))
            go_roundg kj9
            case measure => have := HK1.out; have := HJ9.out; omega
            case rel => exact ⟨(x8_1), (x9_1), (x11_1), (x12_1), (wrap64 (x13_1 + 1)), (by first | rfl | (simp; done) | (simp [*]; done)), H', ⟨by have := HK1.out; have := HJ9.out; omega⟩, ⟨by first | exact rst HO_8.out | exact Kd.R_mono (rst HO_8.out) (by intro k_ hk_; simpa only [ob_eq] using hk_)⟩, ⟨by first | exact rst HO_9.out | exact Kd.R_mono (rst HO_9.out) (by intro k_ hk_; simpa only [ob_eq] using hk_)⟩, ⟨by first | exact rst HO_11.out | exact Kd.R_mono (rst HO_11.out) (by intro k_ hk_; simpa only [ob_eq] using hk_)⟩, ⟨by first | exact rst HO_12.out | exact Kd.R_mono (rst HO_12.out) (by intro k_ hk_; simpa only [ob_eq] using hk_)⟩, ⟨by repeat (first | (with_reducible first | exact HB.out | apply below_alloc | apply pw_below_drewN | apply below_drew1 | refine below_set ?_ GE348.out) | exact HB.out)⟩⟩
          ·
           rw [if_neg c43] at H
           have c43b0 : (((rd_T75 l1 x13_1).f0) == 6) = false := beq_eq_false_iff_ne.mpr c43
           have c43b1 : (((rd_T75 l1 x13_1).f0) != 6) = true := bne_iff_ne.mpr c43
           by_cases c62 : ((rd_T75 l1 x13_1).f0) = 4
           ·
            rw [if_pos c62] at H
            have c62b0 : (((rd_T75 l1 x13_1).f0) == 4) = true := beq_iff_eq.mpr c62
            have c62b1 : (((rd_T75 l1 x13_1).f0) != 4) = false := bne_eq_false_iff_eq.mpr c62
            clear c62
            replace H := ifp H; obtain ⟨c63, H⟩ := H
            have c63b0 : decide (0 ≤ x13_1) = true := decide_eq_true c63
            clear c63
            replace H := ifp H; obtain ⟨c64, H⟩ := H
            have c64b0 : decide (x13_1 < (x9_1.length : Int)) = true := decide_eq_true c64
            clear c64
            replace H := ifp H; obtain ⟨c65, H⟩ := H
            have c65b0 : decide (0 ≤ (rd x9_1 x13_1)) = true := decide_eq_true c65
            clear c65
            replace H := ifp H; obtain ⟨c66, H⟩ := H
            have c66b0 : decide ((rd x9_1 x13_1) < (l1.length : Int)) = true := decide_eq_true c66
            clear c66
            by_cases c67 : ((rd_T75 l1 (rd x9_1 x13_1)).f0) = 5
            ·
             rw [if_pos c67] at H
             have c67b0 : (((rd_T75 l1 (rd x9_1 x13_1)).f0) == 5) = true := beq_iff_eq.mpr c67
             have c67b1 : (((rd_T75 l1 (rd x9_1 x13_1)).f0) != 5) = false := bne_eq_false_iff_eq.mpr c67
             clear c67
             obtain ⟨ji68, hji68⟩ : ∃ j_ : Int, (wrap64 ((x12_1.length : Int) - 1)) = j_ := ⟨_, rfl⟩
             replace H : (if 0 ≤ (ji68) then (if (ji68) < (x12_1.length : Int) then ((some (x12_1.set ((ji68) : Int).toNat (wrap64 ((rd x12_1 (ji68)) - 1)) : List Int)).bind fun y371 => (if (rd y371 (ji68)) > 0 then (impl_alone.l0 kj9 a0 l1 x8_1 x9_1 x11_1 y371 (wrap64 ((rd x9_1 x13_1) + 1))) else (if (ji68) ≤ (x12_1.length : Int) then (impl_alone.l0 kj9 a0 l1 x8_1 x9_1 x11_1 (y371.take ((ji68) : Int).toNat) (wrap64 (x13_1 + 1))) else (none)))) else (none)) else (none)) = some (r1, r2) := by first | (rw [hji68] at H; exact H) | (simp only [hji68] at H ⊢; exact H)
             have hji68w : (IntKind.i64.wrap ((x12_1.length : Int) - 1)) = ji68 := (i64_w _).trans hji68
             replace H := ifp H; obtain ⟨c69, H⟩ := H
             have c69b0 : decide (0 ≤ (ji68)) = true := decide_eq_true c69
             clear c69
             replace H := ifp H; obtain ⟨c70, H⟩ := H
             have c70b0 : decide ((ji68) < (x12_1.length : Int)) = true := decide_eq_true c70
             clear c70
             obtain ⟨y371, hy371⟩ : ∃ y_ : List Int, y_ = (x12_1.set ((ji68) : Int).toNat (wrap64 ((rd x12_1 (ji68)) - 1))) := ⟨_, rfl⟩
             replace H : (if (rd y371 (ji68)) > 0 then (impl_alone.l0 kj9 a0 l1 x8_1 x9_1 x11_1 y371 (wrap64 ((rd x9_1 x13_1) + 1))) else (if (ji68) ≤ (x12_1.length : Int) then (impl_alone.l0 kj9 a0 l1 x8_1 x9_1 x11_1 (y371.take ((ji68) : Int).toNat) (wrap64 (x13_1 + 1))) else (none))) = some (r1, r2) := by first | (rw [hy371]; with_reducible exact H) | (have H2_ := bsm H; rw [hy371]; with_reducible exact H2_) | (have H2_ := bsm H; exact H2_) | (rw [hy371]; exact H) | exact H
             have Ny371 := am hy371; clear hy371
             by_cases c72 : (rd y371 (ji68)) > 0
             ·
              rw [if_pos c72] at H
              have c72b0 : decide (0 < (rd y371 (ji68))) = true := decide_eq_true c72
              clear c72; have H' := am H; clear H
              obtain ⟨Ao73, co73, eo73⟩ := Kd.R_slice HO_9.out
              subst eo73
              have p368 : 0 ≤ (x13_1 : Int) := od (by assumption)
              have q368 : x13_1 < (x9_1.length : Int) := od (by assumption)
              obtain ⟨ad368, e368, hx368_0⟩ := Kd.at_int (Kd.R_reads' HO_9.out).2.2 x13_1 p368 q368
              cases e368
              replace p368 := eq_true p368; replace q368 := eq_true q368
              have p369 : 0 ≤ ((rd x9_1 x13_1) : Int) := od (by assumption)
              have q369 : (rd x9_1 x13_1) < (l1.length : Int) := od (by assumption)
              obtain ⟨ad369, e369, hx369_0, hx369_1, hx369_2, hx369_3, hx369_4⟩ := at_T75 HR1.out (rd x9_1 x13_1) p369 q369
              obtain rfl : ad347 = ad369 := (by injection e369)
              replace hx369_0 := bc HB hx369_0
              replace hx369_1 := bc HB hx369_1
              replace hx369_2 := bc HB hx369_2
              replace hx369_3 := bc HB hx369_3
              replace hx369_4 := bc HB hx369_4
              replace p369 := eq_true p369; replace q369 := eq_true q369
              obtain ⟨Ao74, co74, eo74⟩ := Kd.R_slice HO_12.out
              subst eo74
              have p370 : 0 ≤ ((ji68) : Int) := od (by assumption)
              have q370 : (ji68) < (x12_1.length : Int) := od (by assumption)
              obtain ⟨ad370, e370, hx370_0⟩ := Kd.at_int (Kd.R_reads' HO_12.out).2.2 (ji68) p370 q370
              cases e370
              replace p370 := eq_true p370; replace q370 := eq_true q370
              have p71 : 0 ≤ ((ji68) : Int) := od (by assumption)
              have q71 : ((ji68) : Int) < ((x12_1.length : Int) : Int) := od (by assumption)
              obtain ⟨go71, co71, eo71, gb71, gl71, cl71, HG71⟩ := Kd.R_form HO_12.out (by omega)
              (first | cases eo71 | (injection eo71 with ea_ en_ ec_; (first | subst ea_ | (injection ea_ with ea_; subst ea_)); subst ec_; clear en_))
              have GB71 := am gb71
              have GG71 := am HG71
              clear gb71 gl71 HG71
              (first | simp only [add_plain] at hx370_0 | skip)
              obtain ⟨hx71_0, hf71_0⟩ := Kd.R_celln 0 HO_12.out ((ji68) : Int) p71 q71
              replace p71 := eq_true p71; replace q71 := eq_true q71
              have HP75 := Kd.R_putg HO_12.out ((ji68) : Int) (wrap64 ((rd x12_1 (ji68)) - 1))
              go_wp2_with (first | ((with_reducible refine gate_store (t := 2) (p := 125) rfl ?_); (try (rw [drewN_self wc]; generalize hq_ : World.drewN wc _ = wc; have n0_ := am (Kd.R_at hq_ HO_8.out); have n1_ := am (Kd.R_at hq_ HO_9.out); have n2_ := am (Kd.R_at hq_ HO_11.out); have n3_ := am (Kd.R_at hq_ HO_12.out); have n4_ := am (blk_at hq_ BK348.out); have n5_ := am (below_at hq_ HB.out); clear hq_ HO_8 HO_9 HO_11 HO_12 BK348 HB; have HO_8 := n0_; have HO_9 := n1_; have HO_11 := n2_; have HO_12 := n3_; have BK348 := n4_; have HB := n5_; clear n0_ n1_ n2_ n3_ n4_ n5_; (try (have HP75 := Kd.R_putg HO_12.out ((ji68) : Int) (wrap64 ((rd x12_1 (ji68)) - 1)))))); refine store_event (t := 2) (p := 125) (v := ?vo_w76) (w1 := (wc.setCell ⟨go71, ((ji68) : Int).toNat, none⟩ (.int .i64 (wrap64 ((rd x12_1 (ji68)) - 1))))) ?hg ?ho ?hn ?hr ?_; (case ho => rfl); (case hg => rfl); (case hn => rfl); (case hr => first | (go_simp; done) | (go_simp; rfl)); intro w76 hw; have hg : wc.grownBy w76 (some go71) := (by rw [hw]; exact HP75.2); have hp_ : Kd.R (Kd.int .i64) 2 w76 w.heap.size (fun k_ => some k_ ≠ (v341 : Value).ownBlock ∧ some k_ ≠ (.slice (some ad368) x9_1.length co73 : Value).ownBlock ∧ some k_ ≠ (u11 : Value).ownBlock) (.slice (some ⟨go71, 0, none⟩) x12_1.length co74) y371 := (by rw [hw, Ny371.out]; exact HP75.1); clear HP75; have n0_ := am (Kd.R_after (v := (.slice (some ⟨go71, 0, none⟩) x12_1.length co74)) (v1 := (.slice (some ⟨go71, 0, none⟩) x12_1.length co74)) (ok := (fun k_ => some k_ ≠ (.slice (some ad368) x9_1.length co73 : Value).ownBlock ∧ some k_ ≠ (u11 : Value).ownBlock)) (rst (Kd.R_mono HO_8.out (fun _ hk => ⟨⟨hk.1, hk.2.1⟩, hk.2.2⟩))) hg (.inl rfl)); have n1_ := am (Kd.R_after (v := (.slice (some ⟨go71, 0, none⟩) x12_1.length co74)) (v1 := (.slice (some ⟨go71, 0, none⟩) x12_1.length co74)) (ok := (fun k_ => some k_ ≠ (v341 : Value).ownBlock ∧ some k_ ≠ (u11 : Value).ownBlock)) (rst (Kd.R_mono HO_9.out (fun _ hk => ⟨⟨hk.1, hk.2.1⟩, hk.2.2⟩))) hg (.inl rfl)); have n2_ := am (Kd.R_after (v := (.slice (some ⟨go71, 0, none⟩) x12_1.length co74)) (v1 := (.slice (some ⟨go71, 0, none⟩) x12_1.length co74)) (ok := (fun k_ => some k_ ≠ (v341 : Value).ownBlock ∧ some k_ ≠ (.slice (some ad368) x9_1.length co73 : Value).ownBlock)) (rst (Kd.R_mono HO_11.out (fun _ hk => ⟨⟨hk.1, hk.2.1⟩, hk.2.2⟩))) hg (.inl rfl)); have n3_ := am (hp_); have n4_ := am (blk_grown (g := gb348) (o := .cells #[.int .i64 ((rd_T75 l1 x13_1).f0), .int .i64 ((rd_T75 l1 x13_1).f1), .int .i64 ((rd_T75 l1 x13_1).f2), .int .i64 ((rd_T75 l1 x13_1).f3), .int .i64 ((rd_T75 l1 x13_1).f4)] 75 (0, 0)) (by (with_reducible repeat (first | refine blk_drewN ?_ _ | refine blk_drew ?_ | refine blk_alloc ?_ _)); exact BK348.out) hg (Kd.R_ne HO_12.out BK348.out (by decide))); have n5_ := am ((by rw [hw]; exact below_set (HB.out) GB71.out : Below w.heap.size w w76)); clear HO_8; clear HO_9; clear HO_11; clear HO_12; clear BK348; clear HB; have HO_8 := n0_; have HO_9 := n1_; have HO_11 := n2_; have HO_12 := n3_; have BK348 := n4_; have HB := n5_; clear n0_ n1_ n2_ n3_ n4_ n5_; clear hg hw hp_; have p372 : 0 ≤ ((ji68) : Int) := od (by assumption); have q372 : (ji68) < (y371.length : Int) := (by have h_ : ((ji68) : Int) < ((x12_1.length : Int) : Int) := od (by assumption); first | (have e_ := (Kd.R_reads' HO_12.out).1; omega) | simpa only [Ny371.out, List.length_set] using h_); have ql372 : (((ji68) : Int) < ((x12_1.length : Int) : Int)) = True := eq_true (od (by assumption)); obtain ⟨ad372, e372, hx372_0⟩ := Kd.at_int (Kd.R_reads' HO_12.out).2.2 (ji68) p372 q372; obtain rfl : (⟨go71, 0, none⟩ : Addr) = ad372 := (by injection e372); (first | simp only [add_plain] at hx372_0 | simp only [add_at] at hx372_0 | simp only [Addr.add, Nat.zero_add] at hx372_0 | skip); replace p372 := eq_true p372; replace q372 := eq_true q372; have p373 : 0 ≤ (x13_1 : Int) := od (by assumption); have q373 : x13_1 < (x9_1.length : Int) := od (by assumption); obtain ⟨ad373, e373, hx373_0⟩ := Kd.at_int (Kd.R_reads' HO_9.out).2.2 x13_1 p373 q373; obtain rfl : ad368 = ad373 := (by injection e373); replace p373 := eq_true p373; replace q373 := eq_true q373))
              go_roundg kj9
              case measure => have := HK1.out; have := HJ9.out; omega
              case rel => exact ⟨(x8_1), (x9_1), (x11_1), (y371), (wrap64 ((rd x9_1 x13_1) + 1)), (by first | rfl | (simp; done) | (simp [*]; done)), H', ⟨by have := HK1.out; have := HJ9.out; omega⟩, ⟨by first | exact rst (Kd.R_mono HO_8.out (fun _ hk => ⟨hk.1.1, ⟨hk.1.2, hk.2⟩⟩)) | exact Kd.R_mono (rst (Kd.R_mono HO_8.out (fun _ hk => ⟨hk.1.1, ⟨hk.1.2, hk.2⟩⟩))) (by intro k_ hk_; simpa only [ob_eq] using hk_)⟩, ⟨by first | exact rst (Kd.R_mono HO_9.out (fun _ hk => ⟨hk.1.1, ⟨hk.1.2, hk.2⟩⟩)) | exact Kd.R_mono (rst (Kd.R_mono HO_9.out (fun _ hk => ⟨hk.1.1, ⟨hk.1.2, hk.2⟩⟩))) (by intro k_ hk_; simpa only [ob_eq] using hk_)⟩, ⟨by first | exact rst (Kd.R_mono HO_11.out (fun _ hk => ⟨hk.1.1, ⟨hk.1.2, hk.2⟩⟩)) | exact Kd.R_mono (rst (Kd.R_mono HO_11.out (fun _ hk => ⟨hk.1.1, ⟨hk.1.2, hk.2⟩⟩))) (by intro k_ hk_; simpa only [ob_eq] using hk_)⟩, ⟨by first | exact rst HO_12.out | exact Kd.R_mono (rst HO_12.out) (by intro k_ hk_; simpa only [ob_eq] using hk_)⟩, ⟨by repeat (first | (with_reducible first | exact HB.out | apply below_alloc | apply pw_below_drewN | apply below_drew1 | refine below_set ?_ GE348.out) | exact HB.out)⟩⟩
             ·
              rw [if_neg c72] at H
              have c72b0 : decide (0 < (rd y371 (ji68))) = false := decide_eq_false c72
              clear c72
              replace H := ifp H; obtain ⟨c77, H⟩ := H
              have c77b0 := eq_true c77
              have c77b1 : decide ((ji68) ≤ (x12_1.length : Int)) = true := decide_eq_true c77
              clear c77
              obtain ⟨y374, hy374⟩ : ∃ y_ : List Int, y_ = (y371.take ((ji68) : Int).toNat) := ⟨_, rfl⟩
              replace H : (impl_alone.l0 kj9 a0 l1 x8_1 x9_1 x11_1 y374 (wrap64 (x13_1 + 1))) = some (r1, r2) := by first | (rw [hy374]; with_reducible exact H) | (have H2_ := bsm H; rw [hy374]; with_reducible exact H2_) | (have H2_ := bsm H; exact H2_) | (rw [hy374]; exact H) | exact H
              have Ny374 := am hy374; clear hy374; have H' := am H; clear H
              obtain ⟨Ao78, co78, eo78⟩ := Kd.R_slice HO_9.out
              subst eo78
              have p368 : 0 ≤ (x13_1 : Int) := od (by assumption)
              have q368 : x13_1 < (x9_1.length : Int) := od (by assumption)
              obtain ⟨ad368, e368, hx368_0⟩ := Kd.at_int (Kd.R_reads' HO_9.out).2.2 x13_1 p368 q368
              cases e368
              replace p368 := eq_true p368; replace q368 := eq_true q368
              have p369 : 0 ≤ ((rd x9_1 x13_1) : Int) := od (by assumption)
              have q369 : (rd x9_1 x13_1) < (l1.length : Int) := od (by assumption)
              obtain ⟨ad369, e369, hx369_0, hx369_1, hx369_2, hx369_3, hx369_4⟩ := at_T75 HR1.out (rd x9_1 x13_1) p369 q369
              obtain rfl : ad347 = ad369 := (by injection e369)
              replace hx369_0 := bc HB hx369_0
              replace hx369_1 := bc HB hx369_1
              replace hx369_2 := bc HB hx369_2
              replace hx369_3 := bc HB hx369_3
              replace hx369_4 := bc HB hx369_4
              replace p369 := eq_true p369; replace q369 := eq_true q369
              obtain ⟨Ao79, co79, eo79⟩ := Kd.R_slice HO_12.out
              subst eo79
              have p370 : 0 ≤ ((ji68) : Int) := od (by assumption)
              have q370 : (ji68) < (x12_1.length : Int) := od (by assumption)
              obtain ⟨ad370, e370, hx370_0⟩ := Kd.at_int (Kd.R_reads' HO_12.out).2.2 (ji68) p370 q370
              cases e370
              replace p370 := eq_true p370; replace q370 := eq_true q370
              have p71 : 0 ≤ ((ji68) : Int) := od (by assumption)
              have q71 : ((ji68) : Int) < ((x12_1.length : Int) : Int) := od (by assumption)
              obtain ⟨go71, co71, eo71, gb71, gl71, cl71, HG71⟩ := Kd.R_form HO_12.out (by omega)
              (first | cases eo71 | (injection eo71 with ea_ en_ ec_; (first | subst ea_ | (injection ea_ with ea_; subst ea_)); subst ec_; clear en_))
              have GB71 := am gb71
              have GG71 := am HG71
              clear gb71 gl71 HG71
              (first | simp only [add_plain] at hx370_0 | skip)
              obtain ⟨hx71_0, hf71_0⟩ := Kd.R_celln 0 HO_12.out ((ji68) : Int) p71 q71
              replace p71 := eq_true p71; replace q71 := eq_true q71
              have HP80 := Kd.R_putg HO_12.out ((ji68) : Int) (wrap64 ((rd x12_1 (ji68)) - 1))
              go_wp2_with (first | ((with_reducible refine gate_store (t := 2) (p := 125) rfl ?_); (try (rw [drewN_self wc]; generalize hq_ : World.drewN wc _ = wc; have n0_ := am (Kd.R_at hq_ HO_8.out); have n1_ := am (Kd.R_at hq_ HO_9.out); have n2_ := am (Kd.R_at hq_ HO_11.out); have n3_ := am (Kd.R_at hq_ HO_12.out); have n4_ := am (blk_at hq_ BK348.out); have n5_ := am (below_at hq_ HB.out); clear hq_ HO_8 HO_9 HO_11 HO_12 BK348 HB; have HO_8 := n0_; have HO_9 := n1_; have HO_11 := n2_; have HO_12 := n3_; have BK348 := n4_; have HB := n5_; clear n0_ n1_ n2_ n3_ n4_ n5_; (try (have HP80 := Kd.R_putg HO_12.out ((ji68) : Int) (wrap64 ((rd x12_1 (ji68)) - 1)))))); refine store_event (t := 2) (p := 125) (v := ?vo_w81) (w1 := (wc.setCell ⟨go71, ((ji68) : Int).toNat, none⟩ (.int .i64 (wrap64 ((rd x12_1 (ji68)) - 1))))) ?hg ?ho ?hn ?hr ?_; (case ho => rfl); (case hg => rfl); (case hn => rfl); (case hr => first | (go_simp; done) | (go_simp; rfl)); intro w81 hw; have hg : wc.grownBy w81 (some go71) := (by rw [hw]; exact HP80.2); have hp_ : Kd.R (Kd.int .i64) 2 w81 w.heap.size (fun k_ => some k_ ≠ (v341 : Value).ownBlock ∧ some k_ ≠ (.slice (some ad368) x9_1.length co78 : Value).ownBlock ∧ some k_ ≠ (u11 : Value).ownBlock) (.slice (some ⟨go71, 0, none⟩) x12_1.length co79) y371 := (by rw [hw, Ny371.out]; exact HP80.1); clear HP80; have n0_ := am (Kd.R_after (v := (.slice (some ⟨go71, 0, none⟩) x12_1.length co79)) (v1 := (.slice (some ⟨go71, 0, none⟩) x12_1.length co79)) (ok := (fun k_ => some k_ ≠ (.slice (some ad368) x9_1.length co78 : Value).ownBlock ∧ some k_ ≠ (u11 : Value).ownBlock)) (rst (Kd.R_mono HO_8.out (fun _ hk => ⟨⟨hk.1, hk.2.1⟩, hk.2.2⟩))) hg (.inl rfl)); have n1_ := am (Kd.R_after (v := (.slice (some ⟨go71, 0, none⟩) x12_1.length co79)) (v1 := (.slice (some ⟨go71, 0, none⟩) x12_1.length co79)) (ok := (fun k_ => some k_ ≠ (v341 : Value).ownBlock ∧ some k_ ≠ (u11 : Value).ownBlock)) (rst (Kd.R_mono HO_9.out (fun _ hk => ⟨⟨hk.1, hk.2.1⟩, hk.2.2⟩))) hg (.inl rfl)); have n2_ := am (Kd.R_after (v := (.slice (some ⟨go71, 0, none⟩) x12_1.length co79)) (v1 := (.slice (some ⟨go71, 0, none⟩) x12_1.length co79)) (ok := (fun k_ => some k_ ≠ (v341 : Value).ownBlock ∧ some k_ ≠ (.slice (some ad368) x9_1.length co78 : Value).ownBlock)) (rst (Kd.R_mono HO_11.out (fun _ hk => ⟨⟨hk.1, hk.2.1⟩, hk.2.2⟩))) hg (.inl rfl)); have n3_ := am (hp_); have n4_ := am (blk_grown (g := gb348) (o := .cells #[.int .i64 ((rd_T75 l1 x13_1).f0), .int .i64 ((rd_T75 l1 x13_1).f1), .int .i64 ((rd_T75 l1 x13_1).f2), .int .i64 ((rd_T75 l1 x13_1).f3), .int .i64 ((rd_T75 l1 x13_1).f4)] 75 (0, 0)) (by (with_reducible repeat (first | refine blk_drewN ?_ _ | refine blk_drew ?_ | refine blk_alloc ?_ _)); exact BK348.out) hg (Kd.R_ne HO_12.out BK348.out (by decide))); have n5_ := am ((by rw [hw]; exact below_set (HB.out) GB71.out : Below w.heap.size w w81)); clear HO_8; clear HO_9; clear HO_11; clear HO_12; clear BK348; clear HB; have HO_8 := n0_; have HO_9 := n1_; have HO_11 := n2_; have HO_12 := n3_; have BK348 := n4_; have HB := n5_; clear n0_ n1_ n2_ n3_ n4_ n5_; clear hg hw hp_; have p372 : 0 ≤ ((ji68) : Int) := od (by assumption); have q372 : (ji68) < (y371.length : Int) := (by have h_ : ((ji68) : Int) < ((x12_1.length : Int) : Int) := od (by assumption); first | (have e_ := (Kd.R_reads' HO_12.out).1; omega) | simpa only [Ny371.out, List.length_set] using h_); have ql372 : (((ji68) : Int) < ((x12_1.length : Int) : Int)) = True := eq_true (od (by assumption)); obtain ⟨ad372, e372, hx372_0⟩ := Kd.at_int (Kd.R_reads' HO_12.out).2.2 (ji68) p372 q372; obtain rfl : (⟨go71, 0, none⟩ : Addr) = ad372 := (by injection e372); (first | simp only [add_plain] at hx372_0 | simp only [add_at] at hx372_0 | simp only [Addr.add, Nat.zero_add] at hx372_0 | skip); replace p372 := eq_true p372; replace q372 := eq_true q372; have q82 : ((ji68) : Int) ≤ ((x12_1.length : Int) : Int) := od (by assumption); obtain ⟨i082, hi082, _, hsz82, _⟩ := info_parts info2; have hcut82 := cut_to (P := Try.prog) 22 2 .i64 Try.underlying22 hi082 (some ⟨go71, 0, none⟩) x12_1.length co79 (ji68) (od (by assumption)) q82 (Kd.R_reads' HO_12.out).2.1; have hr82 := Kd.R_take (m := ((ji68) : Int).toNat) HO_12.out (by have e_ := (Kd.R_reads' HO_12.out).1; omega); have hy82 : y374.length = ((ji68) : Int).toNat := (by have e_ := (Kd.R_reads' HO_12.out).1; rw [Ny374.out, List.length_take]; omega); rw [← Ny374.out] at hr82; rw [← hy82] at hr82 hcut82; clear hy82 hi082 hsz82 HO_12; have HO376 := am hr82; clear hr82; replace q82 := eq_true q82))
              go_roundg kj9
              case measure => have := HK1.out; have := HJ9.out; omega
              case rel => exact ⟨(x8_1), (x9_1), (x11_1), (y374), (wrap64 (x13_1 + 1)), (by first | rfl | (simp; done) | (simp [*]; done)), H', ⟨by have := HK1.out; have := HJ9.out; omega⟩, ⟨by first | exact rst (Kd.R_mono HO_8.out (fun _ hk => ⟨hk.1.1, ⟨hk.1.2, hk.2⟩⟩)) | exact Kd.R_mono (rst (Kd.R_mono HO_8.out (fun _ hk => ⟨hk.1.1, ⟨hk.1.2, hk.2⟩⟩))) (by intro k_ hk_; simpa only [ob_eq] using hk_)⟩, ⟨by first | exact rst (Kd.R_mono HO_9.out (fun _ hk => ⟨hk.1.1, ⟨hk.1.2, hk.2⟩⟩)) | exact Kd.R_mono (rst (Kd.R_mono HO_9.out (fun _ hk => ⟨hk.1.1, ⟨hk.1.2, hk.2⟩⟩))) (by intro k_ hk_; simpa only [ob_eq] using hk_)⟩, ⟨by first | exact rst (Kd.R_mono HO_11.out (fun _ hk => ⟨hk.1.1, ⟨hk.1.2, hk.2⟩⟩)) | exact Kd.R_mono (rst (Kd.R_mono HO_11.out (fun _ hk => ⟨hk.1.1, ⟨hk.1.2, hk.2⟩⟩))) (by intro k_ hk_; simpa only [ob_eq] using hk_)⟩, ⟨by first | exact rst HO376.out | exact Kd.R_mono (rst HO376.out) (by intro k_ hk_; simpa only [ob_eq] using hk_)⟩, ⟨by repeat (first | (with_reducible first | exact HB.out | apply below_alloc | apply pw_below_drewN | apply below_drew1 | refine below_set ?_ GE348.out) | exact HB.out)⟩⟩
            ·
             rw [if_neg c67] at H
             have c67b0 : (((rd_T75 l1 (rd x9_1 x13_1)).f0) == 5) = false := beq_eq_false_iff_ne.mpr c67
             have c67b1 : (((rd_T75 l1 (rd x9_1 x13_1)).f0) != 5) = true := bne_iff_ne.mpr c67
             have H' := am H; clear H
             obtain ⟨Ao83, co83, eo83⟩ := Kd.R_slice HO_9.out
             subst eo83
             have p368 : 0 ≤ (x13_1 : Int) := od (by assumption)
             have q368 : x13_1 < (x9_1.length : Int) := od (by assumption)
             obtain ⟨ad368, e368, hx368_0⟩ := Kd.at_int (Kd.R_reads' HO_9.out).2.2 x13_1 p368 q368
             cases e368
             replace p368 := eq_true p368; replace q368 := eq_true q368
             have p369 : 0 ≤ ((rd x9_1 x13_1) : Int) := od (by assumption)
             have q369 : (rd x9_1 x13_1) < (l1.length : Int) := od (by assumption)
             obtain ⟨ad369, e369, hx369_0, hx369_1, hx369_2, hx369_3, hx369_4⟩ := at_T75 HR1.out (rd x9_1 x13_1) p369 q369
             obtain rfl : ad347 = ad369 := (by injection e369)
             replace hx369_0 := bc HB hx369_0
             replace hx369_1 := bc HB hx369_1
             replace hx369_2 := bc HB hx369_2
             replace hx369_3 := bc HB hx369_3
             replace hx369_4 := bc HB hx369_4
             replace p369 := eq_true p369; replace q369 := eq_true q369
             go_wp2
             go_roundg kj9
             case measure => have := HK1.out; have := HJ9.out; omega
             case rel => exact ⟨(x8_1), (x9_1), (x11_1), (x12_1), (wrap64 (x13_1 + 1)), (by first | rfl | (simp; done) | (simp [*]; done)), H', ⟨by have := HK1.out; have := HJ9.out; omega⟩, ⟨by first | exact rst HO_8.out | exact Kd.R_mono (rst HO_8.out) (by intro k_ hk_; simpa only [ob_eq] using hk_)⟩, ⟨by first | exact rst HO_9.out | exact Kd.R_mono (rst HO_9.out) (by intro k_ hk_; simpa only [ob_eq] using hk_)⟩, ⟨by first | exact rst HO_11.out | exact Kd.R_mono (rst HO_11.out) (by intro k_ hk_; simpa only [ob_eq] using hk_)⟩, ⟨by first | exact rst HO_12.out | exact Kd.R_mono (rst HO_12.out) (by intro k_ hk_; simpa only [ob_eq] using hk_)⟩, ⟨by repeat (first | (with_reducible first | exact HB.out | apply below_alloc | apply pw_below_drewN | apply below_drew1 | refine below_set ?_ GE348.out) | exact HB.out)⟩⟩
           ·
            rw [if_neg c62] at H
            have c62b0 : (((rd_T75 l1 x13_1).f0) == 4) = false := beq_eq_false_iff_ne.mpr c62
            have c62b1 : (((rd_T75 l1 x13_1).f0) != 4) = true := bne_iff_ne.mpr c62
            have H' := am H; clear H
            go_wp2
            go_roundg kj9
            case measure => have := HK1.out; have := HJ9.out; omega
            case rel => exact ⟨(x8_1), (x9_1), (x11_1), (x12_1), (wrap64 (x13_1 + 1)), (by first | rfl | (simp; done) | (simp [*]; done)), H', ⟨by have := HK1.out; have := HJ9.out; omega⟩, ⟨by first | exact rst HO_8.out | exact Kd.R_mono (rst HO_8.out) (by intro k_ hk_; simpa only [ob_eq] using hk_)⟩, ⟨by first | exact rst HO_9.out | exact Kd.R_mono (rst HO_9.out) (by intro k_ hk_; simpa only [ob_eq] using hk_)⟩, ⟨by first | exact rst HO_11.out | exact Kd.R_mono (rst HO_11.out) (by intro k_ hk_; simpa only [ob_eq] using hk_)⟩, ⟨by first | exact rst HO_12.out | exact Kd.R_mono (rst HO_12.out) (by intro k_ hk_; simpa only [ob_eq] using hk_)⟩, ⟨by repeat (first | (with_reducible first | exact HB.out | apply below_alloc | apply pw_below_drewN | apply below_drew1 | refine below_set ?_ GE348.out) | exact HB.out)⟩⟩
   ·
    rw [if_neg c8] at H
    have c8b0 : decide (x13_1 < (l1.length : Int)) = false := decide_eq_false c8
    clear c8
    simp only [Option.some.injEq, Prod.mk.injEq] at H
    obtain ⟨rfl, rfl⟩ := H
    go_wp2
    go_ret2
    exact ⟨_, _, by first | rfl | (simp [errW_none, errW_some] <;> rfl) | (simp [*, errW_none, errW_some] <;> rfl), by (with_reducible repeat (first | apply Kd.R_alloc | apply Kd.R_drewN | apply Kd.R_drew)); exact Kd.R_mono HO_8.out (fun _ hk => hk.2.1), by (with_reducible repeat (first | apply Kd.R_alloc | apply Kd.R_drewN | apply Kd.R_drew)); exact Kd.R_mono HO_11.out (fun _ hk => hk.1), by repeat (first | (with_reducible first | exact HB.out | apply below_alloc | apply pw_below_drewN | apply below_drew1) | exact HB.out)⟩
end Go.Proofs.Ytfpcfaapoeeipaa.P
namespace Go.Proofs.Ytfpcfaapoeeipaa.P
open Go.RowKit Go.Proofs.YtfpcfaapoeeipaaW.PrintWords Go.Proofs.YtfpcfaapoeeipaaW.PrintLast Go.Proofs.YtfpcfaapoeeipaaW.PrintMore
attribute [local go_sem] max2_int min2_int max_two min_two
set_option linter.unusedVariables false
set_option linter.unusedSimpArgs false
def spec_l08Ask.f (k : Nat) (a0 : Int) (l1 : List (S75)) (l2 : List Int) : Option (Bool) := (spec_l08Is.f k a0 l1).bind fun t203 => (if t203 = true then ((spec_l08Vars.f k a0 l2).bind fun t204 => (some t204)) else (some false))
set_option maxHeartbeats 8000000 in
set_option maxRecDepth 100000 in
theorem spec_l08Ask.calls (k : Nat) (a0 : Int) (A1 : Option Addr) (c1 : Nat) (l1 : List (S75)) (A2 : Option Addr) (c2 : Nat) (l2 : List Int) (r : Bool) (w : World) (hr1 : Kd.C k75 w A1 l1.length l1) (hc1 : l1.length ≤ c1) (hr2 : Kd.C (Kd.int .i64) w A2 l2.length l2) (hc2 : l2.length ≤ c2) (h : spec_l08Ask.f k a0 l1 l2 = some r) :
  Calls Try.prog 60 #[.int .i64 a0, .slice A1 l1.length c1, .slice A2 l2.length c2] w fun e w' => e = .returned (.bool r) ∧ Below w.heap.size w w' := by
 have HR1 := am hr1
 have HC1 := am hc1
 clear hr1 hc1
 have HR2 := am hr2
 have HC2 := am hc2
 clear hr2 hc2
 have HB := am (Below.refl w.heap.size w)
 have H : ((spec_l08Is.f k a0 l1).bind fun t203 => (if t203 = true then ((spec_l08Vars.f k a0 l2).bind fun t204 => (some t204)) else (some false))) = some r := h
 clear h
 replace H := Option.bind_eq_some_iff.mp H
 obtain ⟨t203, A40, H⟩ := H
 replace H : (if t203 = true then ((spec_l08Vars.f k a0 l2).bind fun t204 => (some t204)) else (some false)) = some r := H
 have A4 := am A40
 clear A40
 by_cases c5 : t203 = true
 ·
  subst c5
  have H1 : ((spec_l08Vars.f k a0 l2).bind fun t204 => (some t204)) = some r := by rw [if_pos rfl] at H; exact H
  clear H
  have H := H1
  clear H1
  replace H := Option.bind_eq_some_iff.mp H
  obtain ⟨t204, A60, H⟩ := H
  replace H : (some t204) = some r := H
  have A6 := am A60
  clear A60
  obtain rfl := Option.some.inj H
  go_enter Try.func60, Try.ntmps60
  go_wp2_with (first | ((with_reducible refine gate_callee (f := 99) rfl ?_); refine goesL_ (some 9) rfl rfl Try.func99 (by kernel_rfl) rfl #[.int .i64 a0, .slice A1 l1.length c1] rfl (by (try simp only [List.map_toArray, List.map_cons, List.map_nil]); first | done | rfl | (simp only [List.length_drop, List.length_take]; rfl)) ?_; (with_reducible refine (spec_l08Is.calls k a0 _ _ l1 true _ ?side1 ?side2 A4.out).mono ?_); (case side1 => repeat (first | exact HR1.out | (with_reducible refine Kd.C_alloc ?_ _) | (with_reducible refine Kd.C_drewN ?_ _) | (with_reducible refine Kd.C_drew ?_))); (case side2 => exact HC1.out); rintro e w7 ⟨rfl, hb⟩; refine ⟨_, rfl, ?_⟩; have n0_ := am (below_step (bst HB) hb); clear HB; have HB := n0_; clear n0_; (try clear hb); (try clear hb2); (try clear hk); (try clear hi)) | (go_at_call 100; (with_reducible refine (spec_l08Vars.calls k a0 _ _ l2 t204 _ ?side1 ?side2 A6.out).mono ?_); (case side1 => repeat (first | exact (Kd.C_below HR2.out HB.out) | (with_reducible refine Kd.C_alloc ?_ _) | (with_reducible refine Kd.C_drewN ?_ _) | (with_reducible refine Kd.C_drew ?_))); (case side2 => exact HC2.out); rintro e w' ⟨rfl, ⟨nd, rfl⟩⟩))
  go_ret
  exact ⟨by first | rfl | (simp [errW_none, errW_some] <;> rfl) | (simp [*, errW_none, errW_some] <;> rfl), by repeat (first | (with_reducible first | exact HB.out | apply below_alloc | apply pw_below_drewN | apply below_drew1) | exact HB.out)⟩
 ·
  replace c5 := Bool.eq_false_iff.mpr c5
  subst c5
  have H1 : (some false) = some r := by rw [if_neg (show ¬ (false = true) by decide)] at H; exact H
  clear H
  have H := H1
  clear H1
  obtain rfl := Option.some.inj H
  go_enter Try.func60, Try.ntmps60
  go_wp2_with (first | ((with_reducible refine gate_callee (f := 99) rfl ?_); refine goesL_ (some 9) rfl rfl Try.func99 (by kernel_rfl) rfl #[.int .i64 a0, .slice A1 l1.length c1] rfl (by (try simp only [List.map_toArray, List.map_cons, List.map_nil]); first | done | rfl | (simp only [List.length_drop, List.length_take]; rfl)) ?_; (with_reducible refine (spec_l08Is.calls k a0 _ _ l1 false _ ?side1 ?side2 A4.out).mono ?_); (case side1 => repeat (first | exact HR1.out | (with_reducible refine Kd.C_alloc ?_ _) | (with_reducible refine Kd.C_drewN ?_ _) | (with_reducible refine Kd.C_drew ?_))); (case side2 => exact HC1.out); rintro e w8 ⟨rfl, hb⟩; refine ⟨_, rfl, ?_⟩; have n0_ := am (below_step (bst HB) hb); clear HB; have HB := n0_; clear n0_; (try clear hb); (try clear hb2); (try clear hk); (try clear hi)))
  go_ret
  exact ⟨by first | rfl | (simp [errW_none, errW_some] <;> rfl) | (simp [*, errW_none, errW_some] <;> rfl), by repeat (first | (with_reducible first | exact HB.out | apply below_alloc | apply pw_below_drewN | apply below_drew1) | exact HB.out)⟩
def impl_RunAlone.f (k : Nat) (a0 : Int) (l1 : List (S75)) (l2 : List Int) : Option (List Int × Bool) := (impl_ValidLines.f k a0 l1).bind fun t491 => (if t491 = true then ((impl_areVars.f a0 l2).bind fun t492 => (if t492 = true then ((impl_alone.f k a0 l1 l2).bind fun bt493 => (some (bt493.1, true))) else (some (([] : List Int), false)))) else (some (([] : List Int), false)))
set_option maxHeartbeats 8000000 in
set_option maxRecDepth 100000 in
theorem impl_RunAlone.calls (k : Nat) (a0 : Int) (A1 : Option Addr) (c1 : Nat) (l1 : List (S75)) (A2 : Option Addr) (c2 : Nat) (l2 : List Int) (r1 : List Int) (r2 : Bool) (w : World) (hr1 : Kd.C k75 w A1 l1.length l1) (hc1 : l1.length ≤ c1) (hr2 : Kd.C (Kd.int .i64) w A2 l2.length l2) (hc2 : l2.length ≤ c2) (h : impl_RunAlone.f k a0 l1 l2 = some (r1, r2)) :
  Calls Try.prog 34 #[.int .i64 a0, .slice A1 l1.length c1, .slice A2 l2.length c2] w fun e w' => ∃ v0_ : Value, e = .returned (.tuple #[v0_, .bool r2]) ∧ Kd.R (Kd.int .i64) 2 w' w.heap.size (fun _ => True) v0_ r1 ∧ Below w.heap.size w w' := by
 have HR1 := am hr1
 have HC1 := am hc1
 clear hr1 hc1
 have HR2 := am hr2
 have HC2 := am hc2
 clear hr2 hc2
 have HB := am (Below.refl w.heap.size w)
 have H : ((impl_ValidLines.f k a0 l1).bind fun t491 => (if t491 = true then ((impl_areVars.f a0 l2).bind fun t492 => (if t492 = true then ((impl_alone.f k a0 l1 l2).bind fun bt493 => (some (bt493.1, true))) else (some (([] : List Int), false)))) else (some (([] : List Int), false)))) = some (r1, r2) := h
 clear h
 replace H := Option.bind_eq_some_iff.mp H
 obtain ⟨t491, A40, H⟩ := H
 replace H : (if t491 = true then ((impl_areVars.f a0 l2).bind fun t492 => (if t492 = true then ((impl_alone.f k a0 l1 l2).bind fun bt493 => (some (bt493.1, true))) else (some (([] : List Int), false)))) else (some (([] : List Int), false))) = some (r1, r2) := H
 have A4 := am A40
 clear A40
 by_cases c5 : t491 = true
 ·
  subst c5
  have H1 : ((impl_areVars.f a0 l2).bind fun t492 => (if t492 = true then ((impl_alone.f k a0 l1 l2).bind fun bt493 => (some (bt493.1, true))) else (some (([] : List Int), false)))) = some (r1, r2) := by rw [if_pos rfl] at H; exact H
  clear H
  have H := H1
  clear H1
  replace H := Option.bind_eq_some_iff.mp H
  obtain ⟨t492, A60, H⟩ := H
  replace H : (if t492 = true then ((impl_alone.f k a0 l1 l2).bind fun bt493 => (some (bt493.1, true))) else (some (([] : List Int), false))) = some (r1, r2) := H
  have A6 := am A60
  clear A60
  by_cases c7 : t492 = true
  ·
   subst c7
   have H1 : ((impl_alone.f k a0 l1 l2).bind fun bt493 => (some (bt493.1, true))) = some (r1, r2) := by rw [if_pos rfl] at H; exact H
   clear H
   have H := H1
   clear H1
   replace H := Option.bind_eq_some_iff.mp H
   obtain ⟨⟨t493, t494⟩, A80, H⟩ := H
   replace H : (some (t493, true)) = some (r1, r2) := H
   have A8 := am A80
   clear A80
   simp only [Option.some.injEq, Prod.mk.injEq] at H
   obtain ⟨rfl, rfl⟩ := H
   go_enter Try.func34, Try.ntmps34
   go_wp2_with (first | ((with_reducible refine gate_callee (f := 39) rfl ?_); refine goesL_ (some 12) rfl rfl Try.func39 (by kernel_rfl) rfl #[.int .i64 a0, .slice A1 l1.length c1] rfl (by (try simp only [List.map_toArray, List.map_cons, List.map_nil]); first | done | rfl | (simp only [List.length_drop, List.length_take]; rfl)) ?_; (with_reducible refine (impl_ValidLines.calls k a0 _ _ l1 true _ ?side1 ?side2 A4.out).mono ?_); (case side1 => repeat (first | exact HR1.out | (with_reducible refine Kd.C_alloc ?_ _) | (with_reducible refine Kd.C_drewN ?_ _) | (with_reducible refine Kd.C_drew ?_))); (case side2 => exact HC1.out); rintro e w9 ⟨rfl, hb⟩; refine ⟨_, rfl, ?_⟩; have n0_ := am (below_step (bst HB) hb); clear HB; have HB := n0_; clear n0_; (try clear hb); (try clear hb2); (try clear hk); (try clear hi)) | (go_at_call 71; (with_reducible refine (impl_areVars.calls a0 _ _ l2 true _ ?side1 ?side2 A6.out).mono ?_); (case side1 => repeat (first | exact (Kd.C_below HR2.out HB.out) | (with_reducible refine Kd.C_alloc ?_ _) | (with_reducible refine Kd.C_drewN ?_ _) | (with_reducible refine Kd.C_drew ?_))); (case side2 => exact HC2.out); rintro e w10 ⟨rfl, hb⟩; have n0_ := am (below_step (bst HB) hb); clear HB; have HB := n0_; clear n0_; (try clear hb); (try clear hb2); (try clear hk); (try clear hi)) | ((with_reducible refine gate_callee (f := 72) rfl ?_); refine goesL_ (some 24) rfl rfl Try.func72 (by kernel_rfl) rfl #[.int .i64 a0, .slice A1 l1.length c1, .slice A2 l2.length c2] rfl (by (try simp only [List.map_toArray, List.map_cons, List.map_nil]); first | done | rfl | (simp only [List.length_drop, List.length_take]; rfl)) ?_; (with_reducible refine (impl_alone.calls k a0 _ _ l1 _ _ l2 t493 t494 _ ?side1 ?side2 ?side3 ?side4 A8.out).mono ?_); (case side1 => repeat (first | exact (Kd.C_below HR1.out HB.out) | (with_reducible refine Kd.C_alloc ?_ _) | (with_reducible refine Kd.C_drewN ?_ _) | (with_reducible refine Kd.C_drew ?_))); (case side2 => exact HC1.out); (case side3 => repeat (first | exact (Kd.C_below HR2.out HB.out) | (with_reducible refine Kd.C_alloc ?_ _) | (with_reducible refine Kd.C_drewN ?_ _) | (with_reducible refine Kd.C_drew ?_))); (case side4 => exact HC2.out); rintro e w11 ⟨v495, v497, rfl, ho0, ho1, hb⟩; refine ⟨_, rfl, ?_⟩; have n0_ := am (Kd.R_lower ho0 (below_size (bst HB))); have n1_ := am (Kd.R_lower ho1 (below_size (bst HB))); have n2_ := am (below_step (bst HB) hb); clear HB; have HO496 := n0_; have HO498 := n1_; have HB := n2_; clear n0_ n1_ n2_; (try clear hb); (try clear hb2); (try clear hk); (try clear hi); (try clear ho0); (try clear ho1)))
   go_ret2
   exact ⟨_, by first | rfl | (simp [errW_none, errW_some] <;> rfl) | (simp [*, errW_none, errW_some] <;> rfl), by (with_reducible repeat (first | apply Kd.R_alloc | apply Kd.R_drewN | apply Kd.R_drew)); exact Kd.R_mono HO496.out (fun _ hk => trivial), by repeat (first | (with_reducible first | exact HB.out | apply below_alloc | apply pw_below_drewN | apply below_drew1) | exact HB.out)⟩
  ·
   replace c7 := Bool.eq_false_iff.mpr c7
   subst c7
   have H1 : (some (([] : List Int), false)) = some (r1, r2) := by rw [if_neg (show ¬ (false = true) by decide)] at H; exact H
   clear H
   have H := H1
   clear H1
   simp only [Option.some.injEq, Prod.mk.injEq] at H
   obtain ⟨rfl, rfl⟩ := H
   go_enter Try.func34, Try.ntmps34
   go_wp2_with (first | ((with_reducible refine gate_callee (f := 39) rfl ?_); refine goesL_ (some 12) rfl rfl Try.func39 (by kernel_rfl) rfl #[.int .i64 a0, .slice A1 l1.length c1] rfl (by (try simp only [List.map_toArray, List.map_cons, List.map_nil]); first | done | rfl | (simp only [List.length_drop, List.length_take]; rfl)) ?_; (with_reducible refine (impl_ValidLines.calls k a0 _ _ l1 true _ ?side1 ?side2 A4.out).mono ?_); (case side1 => repeat (first | exact HR1.out | (with_reducible refine Kd.C_alloc ?_ _) | (with_reducible refine Kd.C_drewN ?_ _) | (with_reducible refine Kd.C_drew ?_))); (case side2 => exact HC1.out); rintro e w12 ⟨rfl, hb⟩; refine ⟨_, rfl, ?_⟩; have n0_ := am (below_step (bst HB) hb); clear HB; have HB := n0_; clear n0_; (try clear hb); (try clear hb2); (try clear hk); (try clear hi)) | (go_at_call 71; (with_reducible refine (impl_areVars.calls a0 _ _ l2 false _ ?side1 ?side2 A6.out).mono ?_); (case side1 => repeat (first | exact (Kd.C_below HR2.out HB.out) | (with_reducible refine Kd.C_alloc ?_ _) | (with_reducible refine Kd.C_drewN ?_ _) | (with_reducible refine Kd.C_drew ?_))); (case side2 => exact HC2.out); rintro e w13 ⟨rfl, hb⟩; have n0_ := am (below_step (bst HB) hb); clear HB; have HB := n0_; clear n0_; (try clear hb); (try clear hb2); (try clear hk); (try clear hi)))
   go_ret2
   exact ⟨_, by first | rfl | (simp [errW_none, errW_some] <;> rfl) | (simp [*, errW_none, errW_some] <;> rfl), by first | exact Kd.R_nil _ _ _ _ _ | exact Kd.N_nil _ _ _ _ _ | exact Kd.V_nil _ _ _ _ _ | exact Kd.Q_nil _ _ _ _ _ | exact Kd.S_nil _ _ _ _ _, by repeat (first | (with_reducible first | exact HB.out | apply below_alloc | apply pw_below_drewN | apply below_drew1) | exact HB.out)⟩
 ·
  replace c5 := Bool.eq_false_iff.mpr c5
  subst c5
  have H1 : (some (([] : List Int), false)) = some (r1, r2) := by rw [if_neg (show ¬ (false = true) by decide)] at H; exact H
  clear H
  have H := H1
  clear H1
  simp only [Option.some.injEq, Prod.mk.injEq] at H
  obtain ⟨rfl, rfl⟩ := H
  go_enter Try.func34, Try.ntmps34
  go_wp2_with (first | ((with_reducible refine gate_callee (f := 39) rfl ?_); refine goesL_ (some 12) rfl rfl Try.func39 (by kernel_rfl) rfl #[.int .i64 a0, .slice A1 l1.length c1] rfl (by (try simp only [List.map_toArray, List.map_cons, List.map_nil]); first | done | rfl | (simp only [List.length_drop, List.length_take]; rfl)) ?_; (with_reducible refine (impl_ValidLines.calls k a0 _ _ l1 false _ ?side1 ?side2 A4.out).mono ?_); (case side1 => repeat (first | exact HR1.out | (with_reducible refine Kd.C_alloc ?_ _) | (with_reducible refine Kd.C_drewN ?_ _) | (with_reducible refine Kd.C_drew ?_))); (case side2 => exact HC1.out); rintro e w14 ⟨rfl, hb⟩; refine ⟨_, rfl, ?_⟩; have n0_ := am (below_step (bst HB) hb); clear HB; have HB := n0_; clear n0_; (try clear hb); (try clear hb2); (try clear hk); (try clear hi)))
  go_ret2
  exact ⟨_, by first | rfl | (simp [errW_none, errW_some] <;> rfl) | (simp [*, errW_none, errW_some] <;> rfl), by first | exact Kd.R_nil _ _ _ _ _ | exact Kd.N_nil _ _ _ _ _ | exact Kd.V_nil _ _ _ _ _ | exact Kd.Q_nil _ _ _ _ _ | exact Kd.S_nil _ _ _ _ _, by repeat (first | (with_reducible first | exact HB.out | apply below_alloc | apply pw_below_drewN | apply below_drew1) | exact HB.out)⟩
end Go.Proofs.Ytfpcfaapoeeipaa.P
namespace Go.Proofs.Ytfpcfaapoeeipaa.P
open Go.RowKit Go.Proofs.YtfpcfaapoeeipaaW.PrintWords Go.Proofs.YtfpcfaapoeeipaaW.PrintLast Go.Proofs.YtfpcfaapoeeipaaW.PrintMore
attribute [local go_sem] max2_int min2_int max_two min_two
set_option linter.unusedVariables false
set_option linter.unusedSimpArgs false
def spec_RunAlone.f (k : Nat) (a0 : Int) (l1 : List (S75)) (l2 : List Int) : Option (List Int × Bool) := (spec_l08Ask.f k a0 l1 l2).bind fun t484 => (if t484 = true then ((spec_l08Alone.f k a0 l1 l2).bind fun bt485 => (some (bt485.1, true))) else (some (([] : List Int), false)))
set_option maxHeartbeats 8000000 in
set_option maxRecDepth 100000 in
theorem spec_RunAlone.calls (k : Nat) (a0 : Int) (A1 : Option Addr) (c1 : Nat) (l1 : List (S75)) (A2 : Option Addr) (c2 : Nat) (l2 : List Int) (r1 : List Int) (r2 : Bool) (w : World) (hr1 : Kd.C k75 w A1 l1.length l1) (hc1 : l1.length ≤ c1) (hr2 : Kd.C (Kd.int .i64) w A2 l2.length l2) (hc2 : l2.length ≤ c2) (h : spec_RunAlone.f k a0 l1 l2 = some (r1, r2)) :
  Calls Try.prog 33 #[.int .i64 a0, .slice A1 l1.length c1, .slice A2 l2.length c2] w fun e w' => ∃ v0_ : Value, e = .returned (.tuple #[v0_, .bool r2]) ∧ Kd.R (Kd.int .i64) 2 w' w.heap.size (fun _ => True) v0_ r1 ∧ Below w.heap.size w w' := by
 have HR1 := am hr1
 have HC1 := am hc1
 clear hr1 hc1
 have HR2 := am hr2
 have HC2 := am hc2
 clear hr2 hc2
 have HB := am (Below.refl w.heap.size w)
 have H : ((spec_l08Ask.f k a0 l1 l2).bind fun t484 => (if t484 = true then ((spec_l08Alone.f k a0 l1 l2).bind fun bt485 => (some (bt485.1, true))) else (some (([] : List Int), false)))) = some (r1, r2) := h
 clear h
 replace H := Option.bind_eq_some_iff.mp H
 obtain ⟨t484, A40, H⟩ := H
 replace H : (if t484 = true then ((spec_l08Alone.f k a0 l1 l2).bind fun bt485 => (some (bt485.1, true))) else (some (([] : List Int), false))) = some (r1, r2) := H
 have A4 := am A40
 clear A40
 by_cases c5 : t484 = true
 ·
  subst c5
  have H1 : ((spec_l08Alone.f k a0 l1 l2).bind fun bt485 => (some (bt485.1, true))) = some (r1, r2) := by rw [if_pos rfl] at H; exact H
  clear H
  have H := H1
  clear H1
  replace H := Option.bind_eq_some_iff.mp H
  obtain ⟨⟨t485, t486⟩, A60, H⟩ := H
  replace H : (some (t485, true)) = some (r1, r2) := H
  have A6 := am A60
  clear A60
  simp only [Option.some.injEq, Prod.mk.injEq] at H
  obtain ⟨rfl, rfl⟩ := H
  go_enter Try.func33, Try.ntmps33
  go_wp2_with (first | ((with_reducible refine gate_callee (f := 60) rfl ?_); refine goesL_ (some 13) rfl rfl Try.func60 (by kernel_rfl) rfl #[.int .i64 a0, .slice A1 l1.length c1, .slice A2 l2.length c2] rfl (by (try simp only [List.map_toArray, List.map_cons, List.map_nil]); first | done | rfl | (simp only [List.length_drop, List.length_take]; rfl)) ?_; (with_reducible refine (spec_l08Ask.calls k a0 _ _ l1 _ _ l2 true _ ?side1 ?side2 ?side3 ?side4 A4.out).mono ?_); (case side1 => repeat (first | exact HR1.out | (with_reducible refine Kd.C_alloc ?_ _) | (with_reducible refine Kd.C_drewN ?_ _) | (with_reducible refine Kd.C_drew ?_))); (case side2 => exact HC1.out); (case side3 => repeat (first | exact HR2.out | (with_reducible refine Kd.C_alloc ?_ _) | (with_reducible refine Kd.C_drewN ?_ _) | (with_reducible refine Kd.C_drew ?_))); (case side4 => exact HC2.out); rintro e w7 ⟨rfl, hb⟩; refine ⟨_, rfl, ?_⟩; have n0_ := am (below_step (bst HB) hb); clear HB; have HB := n0_; clear n0_; (try clear hb); (try clear hb2); (try clear hk); (try clear hi)) | ((with_reducible refine gate_callee (f := 61) rfl ?_); refine goesL_ (some 19) rfl rfl Try.func61 (by kernel_rfl) rfl #[.int .i64 a0, .slice A1 l1.length c1, .slice A2 l2.length c2] rfl (by (try simp only [List.map_toArray, List.map_cons, List.map_nil]); first | done | rfl | (simp only [List.length_drop, List.length_take]; rfl)) ?_; (with_reducible refine (spec_l08Alone.calls k a0 _ _ l1 _ _ l2 t485 t486 _ ?side1 ?side2 ?side3 ?side4 A6.out).mono ?_); (case side1 => repeat (first | exact (Kd.C_below HR1.out HB.out) | (with_reducible refine Kd.C_alloc ?_ _) | (with_reducible refine Kd.C_drewN ?_ _) | (with_reducible refine Kd.C_drew ?_))); (case side2 => exact HC1.out); (case side3 => repeat (first | exact (Kd.C_below HR2.out HB.out) | (with_reducible refine Kd.C_alloc ?_ _) | (with_reducible refine Kd.C_drewN ?_ _) | (with_reducible refine Kd.C_drew ?_))); (case side4 => exact HC2.out); rintro e w8 ⟨v487, v489, rfl, ho0, ho1, hb⟩; refine ⟨_, rfl, ?_⟩; have n0_ := am (Kd.R_lower ho0 (below_size (bst HB))); have n1_ := am (Kd.R_lower ho1 (below_size (bst HB))); have n2_ := am (below_step (bst HB) hb); clear HB; have HO488 := n0_; have HO490 := n1_; have HB := n2_; clear n0_ n1_ n2_; (try clear hb); (try clear hb2); (try clear hk); (try clear hi); (try clear ho0); (try clear ho1)))
  go_ret2
  exact ⟨_, by first | rfl | (simp [errW_none, errW_some] <;> rfl) | (simp [*, errW_none, errW_some] <;> rfl), by (with_reducible repeat (first | apply Kd.R_alloc | apply Kd.R_drewN | apply Kd.R_drew)); exact Kd.R_mono HO488.out (fun _ hk => trivial), by repeat (first | (with_reducible first | exact HB.out | apply below_alloc | apply pw_below_drewN | apply below_drew1) | exact HB.out)⟩
 ·
  replace c5 := Bool.eq_false_iff.mpr c5
  subst c5
  have H1 : (some (([] : List Int), false)) = some (r1, r2) := by rw [if_neg (show ¬ (false = true) by decide)] at H; exact H
  clear H
  have H := H1
  clear H1
  simp only [Option.some.injEq, Prod.mk.injEq] at H
  obtain ⟨rfl, rfl⟩ := H
  go_enter Try.func33, Try.ntmps33
  go_wp2_with (first | ((with_reducible refine gate_callee (f := 60) rfl ?_); refine goesL_ (some 13) rfl rfl Try.func60 (by kernel_rfl) rfl #[.int .i64 a0, .slice A1 l1.length c1, .slice A2 l2.length c2] rfl (by (try simp only [List.map_toArray, List.map_cons, List.map_nil]); first | done | rfl | (simp only [List.length_drop, List.length_take]; rfl)) ?_; (with_reducible refine (spec_l08Ask.calls k a0 _ _ l1 _ _ l2 false _ ?side1 ?side2 ?side3 ?side4 A4.out).mono ?_); (case side1 => repeat (first | exact HR1.out | (with_reducible refine Kd.C_alloc ?_ _) | (with_reducible refine Kd.C_drewN ?_ _) | (with_reducible refine Kd.C_drew ?_))); (case side2 => exact HC1.out); (case side3 => repeat (first | exact HR2.out | (with_reducible refine Kd.C_alloc ?_ _) | (with_reducible refine Kd.C_drewN ?_ _) | (with_reducible refine Kd.C_drew ?_))); (case side4 => exact HC2.out); rintro e w9 ⟨rfl, hb⟩; refine ⟨_, rfl, ?_⟩; have n0_ := am (below_step (bst HB) hb); clear HB; have HB := n0_; clear n0_; (try clear hb); (try clear hb2); (try clear hk); (try clear hi)))
  go_ret2
  exact ⟨_, by first | rfl | (simp [errW_none, errW_some] <;> rfl) | (simp [*, errW_none, errW_some] <;> rfl), by first | exact Kd.R_nil _ _ _ _ _ | exact Kd.N_nil _ _ _ _ _ | exact Kd.V_nil _ _ _ _ _ | exact Kd.Q_nil _ _ _ _ _ | exact Kd.S_nil _ _ _ _ _, by repeat (first | (with_reducible first | exact HB.out | apply below_alloc | apply pw_below_drewN | apply below_drew1) | exact HB.out)⟩
end Go.Proofs.Ytfpcfaapoeeipaa.P
namespace Go.Proofs.Ytfpcfaapoeeipaa.P
open Go.RowKit Go.Proofs.YtfpcfaapoeeipaaW.PrintWords Go.Proofs.YtfpcfaapoeeipaaW.PrintLast Go.Proofs.YtfpcfaapoeeipaaW.PrintMore
attribute [local go_sem] max2_int min2_int max_two min_two
set_option linter.unusedVariables false
set_option linter.unusedSimpArgs false
mutual
def laws_FnExactRunAlone.j0 : Nat → Int → List (S77) → List Int → List Int → Bool → List (S75) → List Int → List Int → Bool → Bool → Option (Bool)
 | 0, _, _, _, _, _, _, _, _, _, _ => none
 | k + 1, x0, x1, x2, x8, x9, x10, x11, x12, x13, x55 => if x55 = true then (some false) else ((laws_toLineS.f k x1).bind fun t521 => ((laws_eqLineS.f k x10 t521).bind fun t524 => (if t524 = true then ((laws_toInt64S.f k x2).bind fun t525 => ((laws_eqInt64S.f k x11 t525).bind fun t528 => (if t528 = true then ((laws_markLineS.f k x10 1).bind fun bt529 => ((laws_markInt64S.f k x11 bt529.1).bind fun bt531 => (if bt531.1 < 0 then (laws_FnExactRunAlone.j1 k x0 x1 x2 x8 x9 x12 true) else ((laws_eqInt64S.f k x12 x8).bind fun t533 => (if t533 = true then (laws_FnExactRunAlone.j1 k x0 x1 x2 x8 x9 x12 (x13 != x9)) else (laws_FnExactRunAlone.j1 k x0 x1 x2 x8 x9 x12 true)))))) else (some false)))) else (some false))))
def laws_FnExactRunAlone.j1 : Nat → Int → List (S77) → List Int → List Int → Bool → List Int → Bool → Option (Bool)
 | 0, _, _, _, _, _, _, _ => none
 | k + 1, x0, x1, x2, x8, x9, x12, x84 => if x84 = true then (some false) else ((laws_markInt64S.f k x12 1).bind fun bt534 => ((laws_heldInt64S.f k bt534.2 1).bind fun t536 => (if t536 < 0 then (some false) else (if t536 = bt534.1 then ((laws_toLineS.f k x1).bind fun t537 => ((laws_toInt64S.f k x2).bind fun t540 => ((impl_RunAlone.f k x0 t537 t540).bind fun bt543 => ((laws_eqInt64S.f k bt543.1 x8).bind fun t547 => (if t547 = true then (laws_FnExactRunAlone.j2 k bt534.2 bt534.1 (bt543.2 != x9)) else (laws_FnExactRunAlone.j2 k bt534.2 bt534.1 true)))))) else (some false)))))
def laws_FnExactRunAlone.j2 : Nat → List Int → Int → Bool → Option (Bool)
 | 0, _, _, _ => none
 | k + 1, x12, x15, x113 => if x113 = true then (some false) else ((laws_heldInt64S.f k x12 1).bind fun t548 => (if t548 < 0 then (some false) else (if t548 = x15 then (some true) else (some false))))
end
def laws_FnExactRunAlone.f (k : Nat) (a0 : Int) (l1 : List (S77)) (l2 : List Int) : Option (Bool) := if (l2.length : Int) > 1048576 then (some true) else ((laws_szLineS.f l1 1048576).bind fun t499 => (if t499 < 0 then (some true) else ((laws_toLineS.f k l1).bind fun t500 => ((laws_toInt64S.f k l2).bind fun t503 => ((spec_RunAlone.f k a0 t500 t503).bind fun bt506 => ((laws_toLineS.f k l1).bind fun t510 => ((laws_toInt64S.f k l2).bind fun t513 => ((impl_RunAlone.f k a0 t510 t513).bind fun bt516 => ((laws_eqInt64S.f k bt516.1 bt506.1).bind fun t520 => (if t520 = true then (laws_FnExactRunAlone.j0 k a0 l1 l2 bt506.1 bt506.2 t510 t513 bt516.1 bt516.2 (bt516.2 != bt506.2)) else (laws_FnExactRunAlone.j0 k a0 l1 l2 bt506.1 bt506.2 t510 t513 bt516.1 bt516.2 true)))))))))))
set_option maxHeartbeats 8000000 in
set_option maxRecDepth 100000 in
theorem laws_FnExactRunAlone.calls (k : Nat) (a0 : Int) (A1 : Option Addr) (c1 : Nat) (l1 : List (S77)) (A2 : Option Addr) (c2 : Nat) (l2 : List Int) (r : Bool) (w : World) (hr1 : Kd.C k77 w A1 l1.length l1) (hc1 : l1.length ≤ c1) (hr2 : Kd.C (Kd.int .i64) w A2 l2.length l2) (hc2 : l2.length ≤ c2) (h : laws_FnExactRunAlone.f k a0 l1 l2 = some r) :
  Calls Try.prog 8 #[.int .i64 a0, .slice A1 l1.length c1, .slice A2 l2.length c2] w fun e w' => e = .returned (.bool r) ∧ Below w.heap.size w w' := by
 have HR1 := am hr1
 have HC1 := am hc1
 clear hr1 hc1
 have HR2 := am hr2
 have HC2 := am hc2
 clear hr2 hc2
 have HB := am (Below.refl w.heap.size w)
 have H : (if (l2.length : Int) > 1048576 then (some true) else ((laws_szLineS.f l1 1048576).bind fun t499 => (if t499 < 0 then (some true) else ((laws_toLineS.f k l1).bind fun t500 => ((laws_toInt64S.f k l2).bind fun t503 => ((spec_RunAlone.f k a0 t500 t503).bind fun bt506 => ((laws_toLineS.f k l1).bind fun t510 => ((laws_toInt64S.f k l2).bind fun t513 => ((impl_RunAlone.f k a0 t510 t513).bind fun bt516 => ((laws_eqInt64S.f k bt516.1 bt506.1).bind fun t520 => (if t520 = true then (laws_FnExactRunAlone.j0 k a0 l1 l2 bt506.1 bt506.2 t510 t513 bt516.1 bt516.2 (bt516.2 != bt506.2)) else (laws_FnExactRunAlone.j0 k a0 l1 l2 bt506.1 bt506.2 t510 t513 bt516.1 bt516.2 true)))))))))))) = some r := h
 clear h
 by_cases c4 : (l2.length : Int) > 1048576
 ·
  rw [if_pos c4] at H
  have c4b0 : decide (1048576 < (l2.length : Int)) = true := decide_eq_true c4
  have c4b1 : decide (1048576 < l2.length) = true := decide_eq_true (by omega)
  clear c4
  obtain rfl := Option.some.inj H
  go_enter Try.func8, Try.ntmps8
  go_wp2
  go_ret
  exact ⟨by first | rfl | (simp [errW_none, errW_some] <;> rfl) | (simp [*, errW_none, errW_some] <;> rfl), by repeat (first | (with_reducible first | exact HB.out | apply below_alloc | apply pw_below_drewN | apply below_drew1) | exact HB.out)⟩
 ·
  rw [if_neg c4] at H
  have c4b0 : decide (1048576 < (l2.length : Int)) = false := decide_eq_false c4
  have c4b1 : decide (1048576 < l2.length) = false := decide_eq_false (by omega)
  clear c4
  replace H := Option.bind_eq_some_iff.mp H
  obtain ⟨t499, A50, H⟩ := H
  replace H : (if t499 < 0 then (some true) else ((laws_toLineS.f k l1).bind fun t500 => ((laws_toInt64S.f k l2).bind fun t503 => ((spec_RunAlone.f k a0 t500 t503).bind fun bt506 => ((laws_toLineS.f k l1).bind fun t510 => ((laws_toInt64S.f k l2).bind fun t513 => ((impl_RunAlone.f k a0 t510 t513).bind fun bt516 => ((laws_eqInt64S.f k bt516.1 bt506.1).bind fun t520 => (if t520 = true then (laws_FnExactRunAlone.j0 k a0 l1 l2 bt506.1 bt506.2 t510 t513 bt516.1 bt516.2 (bt516.2 != bt506.2)) else (laws_FnExactRunAlone.j0 k a0 l1 l2 bt506.1 bt506.2 t510 t513 bt516.1 bt516.2 true)))))))))) = some r := H
  have A5 := am A50
  clear A50
  by_cases c6 : t499 < 0
  ·
   rw [if_pos c6] at H
   have c6b0 : decide (t499 < 0) = true := decide_eq_true c6
   clear c6
   obtain rfl := Option.some.inj H
   go_enter Try.func8, Try.ntmps8
   go_wp2_with (first | ((with_reducible refine gate_callee (f := 19) rfl ?_); refine goesL_ (some 24) rfl rfl Try.func19 (by kernel_rfl) rfl #[.slice A1 l1.length c1, .int .i64 1048576] rfl (by (try simp only [List.map_toArray, List.map_cons, List.map_nil]); first | done | rfl | (simp only [List.length_drop, List.length_take]; rfl)) ?_; (with_reducible refine (laws_szLineS.calls _ _ l1 1048576 t499 _ ?side1 ?side2 A5.out).mono ?_); (case side1 => repeat (first | exact HR1.out | (with_reducible refine Kd.C_alloc ?_ _) | (with_reducible refine Kd.C_drewN ?_ _) | (with_reducible refine Kd.C_drew ?_))); (case side2 => exact HC1.out); rintro e w' ⟨rfl, ⟨nd, rfl⟩⟩; refine ⟨_, rfl, ?_⟩))
   go_ret
   exact ⟨by first | rfl | (simp [errW_none, errW_some] <;> rfl) | (simp [*, errW_none, errW_some] <;> rfl), by repeat (first | (with_reducible first | exact HB.out | apply below_alloc | apply pw_below_drewN | apply below_drew1) | exact HB.out)⟩
  ·
   rw [if_neg c6] at H
   have c6b0 : decide (t499 < 0) = false := decide_eq_false c6
   clear c6
   replace H := Option.bind_eq_some_iff.mp H
   obtain ⟨t500, A70, H⟩ := H
   replace H : ((laws_toInt64S.f k l2).bind fun t503 => ((spec_RunAlone.f k a0 t500 t503).bind fun bt506 => ((laws_toLineS.f k l1).bind fun t510 => ((laws_toInt64S.f k l2).bind fun t513 => ((impl_RunAlone.f k a0 t510 t513).bind fun bt516 => ((laws_eqInt64S.f k bt516.1 bt506.1).bind fun t520 => (if t520 = true then (laws_FnExactRunAlone.j0 k a0 l1 l2 bt506.1 bt506.2 t510 t513 bt516.1 bt516.2 (bt516.2 != bt506.2)) else (laws_FnExactRunAlone.j0 k a0 l1 l2 bt506.1 bt506.2 t510 t513 bt516.1 bt516.2 true)))))))) = some r := H
   have A7 := am A70
   clear A70
   replace H := Option.bind_eq_some_iff.mp H
   obtain ⟨t503, A80, H⟩ := H
   replace H : ((spec_RunAlone.f k a0 t500 t503).bind fun bt506 => ((laws_toLineS.f k l1).bind fun t510 => ((laws_toInt64S.f k l2).bind fun t513 => ((impl_RunAlone.f k a0 t510 t513).bind fun bt516 => ((laws_eqInt64S.f k bt516.1 bt506.1).bind fun t520 => (if t520 = true then (laws_FnExactRunAlone.j0 k a0 l1 l2 bt506.1 bt506.2 t510 t513 bt516.1 bt516.2 (bt516.2 != bt506.2)) else (laws_FnExactRunAlone.j0 k a0 l1 l2 bt506.1 bt506.2 t510 t513 bt516.1 bt516.2 true))))))) = some r := H
   have A8 := am A80
   clear A80
   replace H := Option.bind_eq_some_iff.mp H
   obtain ⟨⟨t506, t507⟩, A90, H⟩ := H
   replace H : ((laws_toLineS.f k l1).bind fun t510 => ((laws_toInt64S.f k l2).bind fun t513 => ((impl_RunAlone.f k a0 t510 t513).bind fun bt516 => ((laws_eqInt64S.f k bt516.1 t506).bind fun t520 => (if t520 = true then (laws_FnExactRunAlone.j0 k a0 l1 l2 t506 t507 t510 t513 bt516.1 bt516.2 (bt516.2 != t507)) else (laws_FnExactRunAlone.j0 k a0 l1 l2 t506 t507 t510 t513 bt516.1 bt516.2 true)))))) = some r := H
   have A9 := am A90
   clear A90
   replace H := Option.bind_eq_some_iff.mp H
   obtain ⟨t510, A100, H⟩ := H
   replace H : ((laws_toInt64S.f k l2).bind fun t513 => ((impl_RunAlone.f k a0 t510 t513).bind fun bt516 => ((laws_eqInt64S.f k bt516.1 t506).bind fun t520 => (if t520 = true then (laws_FnExactRunAlone.j0 k a0 l1 l2 t506 t507 t510 t513 bt516.1 bt516.2 (bt516.2 != t507)) else (laws_FnExactRunAlone.j0 k a0 l1 l2 t506 t507 t510 t513 bt516.1 bt516.2 true))))) = some r := H
   have A10 := am A100
   clear A100
   replace H := Option.bind_eq_some_iff.mp H
   obtain ⟨t513, A110, H⟩ := H
   replace H : ((impl_RunAlone.f k a0 t510 t513).bind fun bt516 => ((laws_eqInt64S.f k bt516.1 t506).bind fun t520 => (if t520 = true then (laws_FnExactRunAlone.j0 k a0 l1 l2 t506 t507 t510 t513 bt516.1 bt516.2 (bt516.2 != t507)) else (laws_FnExactRunAlone.j0 k a0 l1 l2 t506 t507 t510 t513 bt516.1 bt516.2 true)))) = some r := H
   have A11 := am A110
   clear A110
   replace H := Option.bind_eq_some_iff.mp H
   obtain ⟨⟨t516, t517⟩, A120, H⟩ := H
   replace H : ((laws_eqInt64S.f k t516 t506).bind fun t520 => (if t520 = true then (laws_FnExactRunAlone.j0 k a0 l1 l2 t506 t507 t510 t513 t516 t517 (t517 != t507)) else (laws_FnExactRunAlone.j0 k a0 l1 l2 t506 t507 t510 t513 t516 t517 true))) = some r := H
   have A12 := am A120
   clear A120
   have HC13 := am H
   clear H
   go_enter Try.func8, Try.ntmps8
   go_upto_region 11 with (first | ((with_reducible refine gate_callee (f := 19) rfl ?_); refine goesL_ (some 24) rfl rfl Try.func19 (by kernel_rfl) rfl #[.slice A1 l1.length c1, .int .i64 1048576] rfl (by (try simp only [List.map_toArray, List.map_cons, List.map_nil]); first | done | rfl | (simp only [List.length_drop, List.length_take]; rfl)) ?_; (with_reducible refine (laws_szLineS.calls _ _ l1 1048576 t499 _ ?side1 ?side2 A5.out).mono ?_); (case side1 => repeat (first | exact HR1.out | (with_reducible refine Kd.C_alloc ?_ _) | (with_reducible refine Kd.C_drewN ?_ _) | (with_reducible refine Kd.C_drew ?_))); (case side2 => exact HC1.out); rintro e w' ⟨rfl, ⟨nd, rfl⟩⟩; refine ⟨_, rfl, ?_⟩) | ((with_reducible refine gate_callee (f := 21) rfl ?_); refine goesL_ (some 30) rfl rfl Try.func21 (by kernel_rfl) rfl #[.slice A1 l1.length c1] rfl (by (try simp only [List.map_toArray, List.map_cons, List.map_nil]); first | done | rfl | (simp only [List.length_drop, List.length_take]; rfl)) ?_; (with_reducible refine (laws_toLineS.calls k _ _ l1 t500 _ ?side1 ?side2 A7.out).mono ?_); (case side1 => repeat (first | exact HR1.out | (with_reducible refine Kd.C_alloc ?_ _) | (with_reducible refine Kd.C_drewN ?_ _) | (with_reducible refine Kd.C_drew ?_))); (case side2 => exact HC1.out); rintro e w14 ⟨v501, rfl, ho0, hb⟩; refine ⟨_, rfl, ?_⟩; have n0_ := am (Kd.R_lower ho0 (below_size (bst HB))); have n1_ := am (below_step (bst HB) hb); clear HB; have HO502 := n0_; have HB := n1_; clear n0_ n1_; (try clear hb); (try clear hb2); (try clear hk); (try clear hi); (try clear ho0)) | ((with_reducible refine gate_callee (f := 12) rfl ?_); refine goesL_ (some 32) rfl rfl Try.func12 (by kernel_rfl) rfl #[.slice A2 l2.length c2] rfl (by (try simp only [List.map_toArray, List.map_cons, List.map_nil]); first | done | rfl | (simp only [List.length_drop, List.length_take]; rfl)) ?_; (with_reducible refine (laws_toInt64S.calls k _ _ l2 t503 _ ?side1 ?side2 A8.out).mono ?_); (case side1 => repeat (first | exact (Kd.C_below HR2.out HB.out) | (with_reducible refine Kd.C_alloc ?_ _) | (with_reducible refine Kd.C_drewN ?_ _) | (with_reducible refine Kd.C_drew ?_))); (case side2 => exact HC2.out); rintro e w15 ⟨v504, rfl, ho0, hb⟩; refine ⟨_, rfl, ?_⟩; have n0_ := am (Kd.R_below (rst HO502.out) hb); have n1_ := am (Kd.R_lower ho0 (below_size (bst HB))); have n2_ := am (below_step (bst HB) hb); clear HO502; clear HB; have HO502 := n0_; have HO505 := n1_; have HB := n2_; clear n0_ n1_ n2_; (try clear hb); (try clear hb2); (try clear hk); (try clear hi); (try clear ho0); obtain ⟨Ao16, co16, eo16⟩ := Kd.R_slice HO502.out; subst eo16; obtain ⟨Ao17, co17, eo17⟩ := Kd.R_slice HO505.out; subst eo17) | ((with_reducible refine gate_callee (f := 33) rfl ?_); refine goesL_ (some 33) rfl rfl Try.func33 (by kernel_rfl) rfl #[.int .i64 a0, .slice Ao16 t500.length co16, .slice Ao17 t503.length co17] rfl (by (try simp only [List.map_toArray, List.map_cons, List.map_nil]); first | done | rfl | (simp only [List.length_drop, List.length_take]; rfl)) ?_; (with_reducible refine (spec_RunAlone.calls k a0 _ _ t500 _ _ t503 t506 t507 _ ?side1 ?side2 ?side3 ?side4 A9.out).mono ?_); (case side1 => repeat (first | exact (Kd.R_reads' HO502.out).2.2 | (with_reducible refine Kd.C_alloc ?_ _) | (with_reducible refine Kd.C_drewN ?_ _) | (with_reducible refine Kd.C_drew ?_))); (case side2 => exact (Kd.R_reads' HO502.out).2.1); (case side3 => repeat (first | exact (Kd.R_reads' HO505.out).2.2 | (with_reducible refine Kd.C_alloc ?_ _) | (with_reducible refine Kd.C_drewN ?_ _) | (with_reducible refine Kd.C_drew ?_))); (case side4 => exact (Kd.R_reads' HO505.out).2.1); rintro e w18 ⟨v508, rfl, ho0, hb⟩; refine ⟨_, rfl, ?_⟩; have n0_ := am (Kd.R_below (rst HO502.out) hb); have n1_ := am (Kd.R_elder' (rst HO505.out) (Kd.R_base ho0) hb); have n2_ := am (Kd.R_lower (Kd.R_new' ho0 (Kd.R_lt (rst HO505.out))) (below_size (bst HB))); have n3_ := am (below_step (bst HB) hb); clear HO502; clear HO505; clear HB; have HO502 := n0_; have HO505 := n1_; have HO509 := n2_; have HB := n3_; clear n0_ n1_ n2_ n3_; (try clear hb); (try clear hb2); (try clear hk); (try clear hi); (try clear ho0)) | ((with_reducible refine gate_callee (f := 21) rfl ?_); refine goesL_ (some 37) rfl rfl Try.func21 (by kernel_rfl) rfl #[.slice A1 l1.length c1] rfl (by (try simp only [List.map_toArray, List.map_cons, List.map_nil]); first | done | rfl | (simp only [List.length_drop, List.length_take]; rfl)) ?_; (with_reducible refine (laws_toLineS.calls k _ _ l1 t510 _ ?side1 ?side2 A10.out).mono ?_); (case side1 => repeat (first | exact (Kd.C_below HR1.out HB.out) | (with_reducible refine Kd.C_alloc ?_ _) | (with_reducible refine Kd.C_drewN ?_ _) | (with_reducible refine Kd.C_drew ?_))); (case side2 => exact HC1.out); rintro e w19 ⟨v511, rfl, ho0, hb⟩; refine ⟨_, rfl, ?_⟩; have n0_ := am (Kd.R_elder' (rst HO502.out) (Kd.R_base ho0) hb); have n1_ := am (Kd.R_below (rst HO505.out) hb); have n2_ := am (Kd.R_below (rst HO509.out) hb); have n3_ := am (Kd.R_lower (Kd.R_new' ho0 (Kd.R_lt (rst HO502.out))) (below_size (bst HB))); have n4_ := am (below_step (bst HB) hb); clear HO502; clear HO505; clear HO509; clear HB; have HO502 := n0_; have HO505 := n1_; have HO509 := n2_; have HO512 := n3_; have HB := n4_; clear n0_ n1_ n2_ n3_ n4_; (try clear hb); (try clear hb2); (try clear hk); (try clear hi); (try clear ho0)) | ((with_reducible refine gate_callee (f := 12) rfl ?_); refine goesL_ (some 39) rfl rfl Try.func12 (by kernel_rfl) rfl #[.slice A2 l2.length c2] rfl (by (try simp only [List.map_toArray, List.map_cons, List.map_nil]); first | done | rfl | (simp only [List.length_drop, List.length_take]; rfl)) ?_; (with_reducible refine (laws_toInt64S.calls k _ _ l2 t513 _ ?side1 ?side2 A11.out).mono ?_); (case side1 => repeat (first | exact (Kd.C_below HR2.out HB.out) | (with_reducible refine Kd.C_alloc ?_ _) | (with_reducible refine Kd.C_drewN ?_ _) | (with_reducible refine Kd.C_drew ?_))); (case side2 => exact HC2.out); rintro e w20 ⟨v514, rfl, ho0, hb⟩; refine ⟨_, rfl, ?_⟩; have n0_ := am (Kd.R_below (rst HO502.out) hb); have n1_ := am (Kd.R_elder' (rst HO505.out) (Kd.R_base ho0) hb); have n2_ := am (Kd.R_elder' (rst HO509.out) (Kd.R_base ho0) hb); have n3_ := am (Kd.R_below (rst HO512.out) hb); have n4_ := am (Kd.R_lower (Kd.R_new' (Kd.R_new' ho0 (Kd.R_lt (rst HO505.out))) (Kd.R_lt (rst HO509.out))) (below_size (bst HB))); have n5_ := am (below_step (bst HB) hb); clear HO502; clear HO505; clear HO509; clear HO512; clear HB; have HO502 := n0_; have HO505 := n1_; have HO509 := n2_; have HO512 := n3_; have HO515 := n4_; have HB := n5_; clear n0_ n1_ n2_ n3_ n4_ n5_; (try clear hb); (try clear hb2); (try clear hk); (try clear hi); (try clear ho0); obtain ⟨Ao21, co21, eo21⟩ := Kd.R_slice HO512.out; subst eo21; obtain ⟨Ao22, co22, eo22⟩ := Kd.R_slice HO515.out; subst eo22) | ((with_reducible refine gate_callee (f := 34) rfl ?_); refine goesL_ (some 44) rfl rfl Try.func34 (by kernel_rfl) rfl #[.int .i64 a0, .slice Ao21 t510.length co21, .slice Ao22 t513.length co22] rfl (by (try simp only [List.map_toArray, List.map_cons, List.map_nil]); first | done | rfl | (simp only [List.length_drop, List.length_take]; rfl)) ?_; (with_reducible refine (impl_RunAlone.calls k a0 _ _ t510 _ _ t513 t516 t517 _ ?side1 ?side2 ?side3 ?side4 A12.out).mono ?_); (case side1 => repeat (first | exact (Kd.R_reads' HO512.out).2.2 | (with_reducible refine Kd.C_alloc ?_ _) | (with_reducible refine Kd.C_drewN ?_ _) | (with_reducible refine Kd.C_drew ?_))); (case side2 => exact (Kd.R_reads' HO512.out).2.1); (case side3 => repeat (first | exact (Kd.R_reads' HO515.out).2.2 | (with_reducible refine Kd.C_alloc ?_ _) | (with_reducible refine Kd.C_drewN ?_ _) | (with_reducible refine Kd.C_drew ?_))); (case side4 => exact (Kd.R_reads' HO515.out).2.1); rintro e w23 ⟨v518, rfl, ho0, hb⟩; refine ⟨_, rfl, ?_⟩; have n0_ := am (Kd.R_below (rst HO502.out) hb); have n1_ := am (Kd.R_elder' (rst HO505.out) (Kd.R_base ho0) hb); have n2_ := am (Kd.R_elder' (rst HO509.out) (Kd.R_base ho0) hb); have n3_ := am (Kd.R_below (rst HO512.out) hb); have n4_ := am (Kd.R_elder' (rst HO515.out) (Kd.R_base ho0) hb); have n5_ := am (Kd.R_lower (Kd.R_new' (Kd.R_new' (Kd.R_new' ho0 (Kd.R_lt (rst HO505.out))) (Kd.R_lt (rst HO509.out))) (Kd.R_lt (rst HO515.out))) (below_size (bst HB))); have n6_ := am (below_step (bst HB) hb); clear HO502; clear HO505; clear HO509; clear HO512; clear HO515; clear HB; have HO502 := n0_; have HO505 := n1_; have HO509 := n2_; have HO512 := n3_; have HO515 := n4_; have HO519 := n5_; have HB := n6_; clear n0_ n1_ n2_ n3_ n4_ n5_ n6_; (try clear hb); (try clear hb2); (try clear hk); (try clear hi); (try clear ho0)))
   (try simp only [Act.put, List.setIfInBounds_toArray, List.set_cons_zero, List.set_cons_succ])
   go_cut [55] (fun v55 wc => ∃ (kq : Nat) (x55_12 : Bool), v55 = .bool x55_12 ∧ Aside0 (laws_FnExactRunAlone.j0 kq a0 l1 l2 t506 t507 t510 t513 t516 t517 x55_12 = some r) ∧ Aside0 (kq ≤ k) ∧ Aside0 (Kd.R (Kd.int .i64) 2 wc w.heap.size (fun k_ => some k_ ≠ ((.slice Ao22 t513.length co22) : Value).ownBlock ∧ some k_ ≠ (v518 : Value).ownBlock) v508 t506) ∧ Aside0 (Kd.R k75 75 wc w.heap.size (fun _ => True) (.slice Ao21 t510.length co21) t510) ∧ Aside0 (Kd.R (Kd.int .i64) 2 wc w.heap.size (fun k_ => some k_ ≠ (v508 : Value).ownBlock ∧ some k_ ≠ (v518 : Value).ownBlock) (.slice Ao22 t513.length co22) t513) ∧ Aside0 (Kd.R (Kd.int .i64) 2 wc w.heap.size (fun k_ => some k_ ≠ (v508 : Value).ownBlock ∧ some k_ ≠ ((.slice Ao22 t513.length co22) : Value).ownBlock) v518 t516) ∧ Aside0 (Below w.heap.size w wc))
   case first =>
    have H := HC13.out
    clear HC13
    replace H := Option.bind_eq_some_iff.mp H
    obtain ⟨t520, A240, H⟩ := H
    replace H : (if t520 = true then (laws_FnExactRunAlone.j0 k a0 l1 l2 t506 t507 t510 t513 t516 t517 (t517 != t507)) else (laws_FnExactRunAlone.j0 k a0 l1 l2 t506 t507 t510 t513 t516 t517 true)) = some r := H
    have A24 := am A240
    clear A240
    by_cases c25 : t520 = true
    ·
     subst c25
     have H1 : (laws_FnExactRunAlone.j0 k a0 l1 l2 t506 t507 t510 t513 t516 t517 (t517 != t507)) = some r := by rw [if_pos rfl] at H; exact H
     clear H
     have H := H1
     clear H1; have H' := am H; clear H
     obtain ⟨Ao26, co26, eo26⟩ := Kd.R_slice HO519.out
     subst eo26
     obtain ⟨Ao27, co27, eo27⟩ := Kd.R_slice HO509.out
     subst eo27
     go_wp2_with (first | ((with_reducible refine gate_callee (f := 14) rfl ?_); refine goesL_ (some 49) rfl rfl Try.func14 (by kernel_rfl) rfl #[.slice Ao26 t516.length co26, .slice Ao27 t506.length co27] rfl (by (try simp only [List.map_toArray, List.map_cons, List.map_nil]); first | done | rfl | (simp only [List.length_drop, List.length_take]; rfl)) ?_; (with_reducible refine (laws_eqInt64S.calls k _ _ t516 _ _ t506 true _ ?side1 ?side2 ?side3 ?side4 A24.out).mono ?_); (case side1 => repeat (first | exact (Kd.R_reads' HO519.out).2.2 | (with_reducible refine Kd.C_alloc ?_ _) | (with_reducible refine Kd.C_drewN ?_ _) | (with_reducible refine Kd.C_drew ?_))); (case side2 => exact (Kd.R_reads' HO519.out).2.1); (case side3 => repeat (first | exact (Kd.R_reads' HO509.out).2.2 | (with_reducible refine Kd.C_alloc ?_ _) | (with_reducible refine Kd.C_drewN ?_ _) | (with_reducible refine Kd.C_drew ?_))); (case side4 => exact (Kd.R_reads' HO509.out).2.1); rintro e w' ⟨rfl, ⟨nd, rfl⟩⟩; refine ⟨_, rfl, ?_⟩))
     go_meet
     case rel => exact ⟨_, ((t517 != t507)), (by first | rfl | (simp; done) | (simp [*]; done)), H', ⟨by first | omega | exact Nat.le_refl _⟩, ⟨by first | exact rst (Kd.R_mono HO509.out (fun _ hk => ⟨hk.1.2, hk.2⟩)) | exact Kd.R_mono (rst (Kd.R_mono HO509.out (fun _ hk => ⟨hk.1.2, hk.2⟩))) (by intro k_ hk_; simpa only [ob_eq] using hk_)⟩, ⟨by (with_reducible repeat (first | apply Kd.R_alloc | apply Kd.R_drewN | apply Kd.R_drew)); exact Kd.R_mono HO512.out (fun _ hk => trivial)⟩, ⟨by first | exact rst (Kd.R_mono HO515.out (fun _ hk => ⟨hk.1.2, hk.2⟩)) | exact Kd.R_mono (rst (Kd.R_mono HO515.out (fun _ hk => ⟨hk.1.2, hk.2⟩))) (by intro k_ hk_; simpa only [ob_eq] using hk_)⟩, ⟨by first | exact rst (Kd.R_mono HO519.out (fun _ hk => ⟨hk.1.2, hk.2⟩)) | exact Kd.R_mono (rst (Kd.R_mono HO519.out (fun _ hk => ⟨hk.1.2, hk.2⟩))) (by intro k_ hk_; simpa only [ob_eq] using hk_)⟩, ⟨bst HB⟩⟩
    ·
     replace c25 := Bool.eq_false_iff.mpr c25
     subst c25
     have H1 : (laws_FnExactRunAlone.j0 k a0 l1 l2 t506 t507 t510 t513 t516 t517 true) = some r := by rw [if_neg (show ¬ (false = true) by decide)] at H; exact H
     clear H
     have H := H1
     clear H1; have H' := am H; clear H
     obtain ⟨Ao28, co28, eo28⟩ := Kd.R_slice HO519.out
     subst eo28
     obtain ⟨Ao29, co29, eo29⟩ := Kd.R_slice HO509.out
     subst eo29
     go_wp2_with (first | ((with_reducible refine gate_callee (f := 14) rfl ?_); refine goesL_ (some 49) rfl rfl Try.func14 (by kernel_rfl) rfl #[.slice Ao28 t516.length co28, .slice Ao29 t506.length co29] rfl (by (try simp only [List.map_toArray, List.map_cons, List.map_nil]); first | done | rfl | (simp only [List.length_drop, List.length_take]; rfl)) ?_; (with_reducible refine (laws_eqInt64S.calls k _ _ t516 _ _ t506 false _ ?side1 ?side2 ?side3 ?side4 A24.out).mono ?_); (case side1 => repeat (first | exact (Kd.R_reads' HO519.out).2.2 | (with_reducible refine Kd.C_alloc ?_ _) | (with_reducible refine Kd.C_drewN ?_ _) | (with_reducible refine Kd.C_drew ?_))); (case side2 => exact (Kd.R_reads' HO519.out).2.1); (case side3 => repeat (first | exact (Kd.R_reads' HO509.out).2.2 | (with_reducible refine Kd.C_alloc ?_ _) | (with_reducible refine Kd.C_drewN ?_ _) | (with_reducible refine Kd.C_drew ?_))); (case side4 => exact (Kd.R_reads' HO509.out).2.1); rintro e w' ⟨rfl, ⟨nd, rfl⟩⟩; refine ⟨_, rfl, ?_⟩))
     go_meet
     case rel => exact ⟨_, (true), (by first | rfl | (simp; done) | (simp [*]; done)), H', ⟨by first | omega | exact Nat.le_refl _⟩, ⟨by first | exact rst (Kd.R_mono HO509.out (fun _ hk => ⟨hk.1.2, hk.2⟩)) | exact Kd.R_mono (rst (Kd.R_mono HO509.out (fun _ hk => ⟨hk.1.2, hk.2⟩))) (by intro k_ hk_; simpa only [ob_eq] using hk_)⟩, ⟨by (with_reducible repeat (first | apply Kd.R_alloc | apply Kd.R_drewN | apply Kd.R_drew)); exact Kd.R_mono HO512.out (fun _ hk => trivial)⟩, ⟨by first | exact rst (Kd.R_mono HO515.out (fun _ hk => ⟨hk.1.2, hk.2⟩)) | exact Kd.R_mono (rst (Kd.R_mono HO515.out (fun _ hk => ⟨hk.1.2, hk.2⟩))) (by intro k_ hk_; simpa only [ob_eq] using hk_)⟩, ⟨by first | exact rst (Kd.R_mono HO519.out (fun _ hk => ⟨hk.1.2, hk.2⟩)) | exact Kd.R_mono (rst (Kd.R_mono HO519.out (fun _ hk => ⟨hk.1.2, hk.2⟩))) (by intro k_ hk_; simpa only [ob_eq] using hk_)⟩, ⟨bst HB⟩⟩
   case rest =>
    clear HC13; (try clear c1); (try clear c2); (try clear p2); (try clear c3); (try clear c4); (try clear c4b0); (try clear c4b1); (try clear c6); (try clear c6b0); (try clear c8); (try clear c12); (try clear c14); (try clear c19); (try clear c21); (try clear c25)
    obtain ⟨kq, x55_12, rfl, HA, HJ12, HO_8, HO_10, HO_11, HO_12, HB⟩ := hcut
    cases kq with
    | zero => exact absurd HA.out (by simp [laws_FnExactRunAlone.j0])
    | succ kj12 =>
     have H := HA.out
     clear HA
     simp only [laws_FnExactRunAlone.j0] at H
     by_cases c30 : x55_12 = true
     ·
      subst c30
      have H1 : (some false) = some r := by rw [if_pos rfl] at H; exact H
      clear H
      have H := H1
      clear H1
      obtain rfl := Option.some.inj H
      go_wp2
      go_ret
      exact ⟨by first | rfl | (simp [errW_none, errW_some] <;> rfl) | (simp [*, errW_none, errW_some] <;> rfl), by repeat (first | (with_reducible first | exact HB.out | apply below_alloc | apply pw_below_drewN | apply below_drew1) | exact HB.out)⟩
     ·
      replace c30 := Bool.eq_false_iff.mpr c30
      subst c30
      have H1 : ((laws_toLineS.f kj12 l1).bind fun t521 => ((laws_eqLineS.f kj12 t510 t521).bind fun t524 => (if t524 = true then ((laws_toInt64S.f kj12 l2).bind fun t525 => ((laws_eqInt64S.f kj12 t513 t525).bind fun t528 => (if t528 = true then ((laws_markLineS.f kj12 t510 1).bind fun bt529 => ((laws_markInt64S.f kj12 t513 bt529.1).bind fun bt531 => (if bt531.1 < 0 then (laws_FnExactRunAlone.j1 kj12 a0 l1 l2 t506 t507 t516 true) else ((laws_eqInt64S.f kj12 t516 t506).bind fun t533 => (if t533 = true then (laws_FnExactRunAlone.j1 kj12 a0 l1 l2 t506 t507 t516 (t517 != t507)) else (laws_FnExactRunAlone.j1 kj12 a0 l1 l2 t506 t507 t516 true)))))) else (some false)))) else (some false)))) = some r := by rw [if_neg (show ¬ (false = true) by decide)] at H; exact H
      clear H
      have H := H1
      clear H1
      replace H := Option.bind_eq_some_iff.mp H
      obtain ⟨t521, A310, H⟩ := H
      replace H : ((laws_eqLineS.f kj12 t510 t521).bind fun t524 => (if t524 = true then ((laws_toInt64S.f kj12 l2).bind fun t525 => ((laws_eqInt64S.f kj12 t513 t525).bind fun t528 => (if t528 = true then ((laws_markLineS.f kj12 t510 1).bind fun bt529 => ((laws_markInt64S.f kj12 t513 bt529.1).bind fun bt531 => (if bt531.1 < 0 then (laws_FnExactRunAlone.j1 kj12 a0 l1 l2 t506 t507 t516 true) else ((laws_eqInt64S.f kj12 t516 t506).bind fun t533 => (if t533 = true then (laws_FnExactRunAlone.j1 kj12 a0 l1 l2 t506 t507 t516 (t517 != t507)) else (laws_FnExactRunAlone.j1 kj12 a0 l1 l2 t506 t507 t516 true)))))) else (some false)))) else (some false))) = some r := H
      have A31 := am A310
      clear A310
      replace H := Option.bind_eq_some_iff.mp H
      obtain ⟨t524, A320, H⟩ := H
      replace H : (if t524 = true then ((laws_toInt64S.f kj12 l2).bind fun t525 => ((laws_eqInt64S.f kj12 t513 t525).bind fun t528 => (if t528 = true then ((laws_markLineS.f kj12 t510 1).bind fun bt529 => ((laws_markInt64S.f kj12 t513 bt529.1).bind fun bt531 => (if bt531.1 < 0 then (laws_FnExactRunAlone.j1 kj12 a0 l1 l2 t506 t507 t516 true) else ((laws_eqInt64S.f kj12 t516 t506).bind fun t533 => (if t533 = true then (laws_FnExactRunAlone.j1 kj12 a0 l1 l2 t506 t507 t516 (t517 != t507)) else (laws_FnExactRunAlone.j1 kj12 a0 l1 l2 t506 t507 t516 true)))))) else (some false)))) else (some false)) = some r := H
      have A32 := am A320
      clear A320
      by_cases c33 : t524 = true
      ·
       subst c33
       have H1 : ((laws_toInt64S.f kj12 l2).bind fun t525 => ((laws_eqInt64S.f kj12 t513 t525).bind fun t528 => (if t528 = true then ((laws_markLineS.f kj12 t510 1).bind fun bt529 => ((laws_markInt64S.f kj12 t513 bt529.1).bind fun bt531 => (if bt531.1 < 0 then (laws_FnExactRunAlone.j1 kj12 a0 l1 l2 t506 t507 t516 true) else ((laws_eqInt64S.f kj12 t516 t506).bind fun t533 => (if t533 = true then (laws_FnExactRunAlone.j1 kj12 a0 l1 l2 t506 t507 t516 (t517 != t507)) else (laws_FnExactRunAlone.j1 kj12 a0 l1 l2 t506 t507 t516 true)))))) else (some false)))) = some r := by rw [if_pos rfl] at H; exact H
       clear H
       have H := H1
       clear H1
       replace H := Option.bind_eq_some_iff.mp H
       obtain ⟨t525, A340, H⟩ := H
       replace H : ((laws_eqInt64S.f kj12 t513 t525).bind fun t528 => (if t528 = true then ((laws_markLineS.f kj12 t510 1).bind fun bt529 => ((laws_markInt64S.f kj12 t513 bt529.1).bind fun bt531 => (if bt531.1 < 0 then (laws_FnExactRunAlone.j1 kj12 a0 l1 l2 t506 t507 t516 true) else ((laws_eqInt64S.f kj12 t516 t506).bind fun t533 => (if t533 = true then (laws_FnExactRunAlone.j1 kj12 a0 l1 l2 t506 t507 t516 (t517 != t507)) else (laws_FnExactRunAlone.j1 kj12 a0 l1 l2 t506 t507 t516 true)))))) else (some false))) = some r := H
       have A34 := am A340
       clear A340
       replace H := Option.bind_eq_some_iff.mp H
       obtain ⟨t528, A350, H⟩ := H
       replace H : (if t528 = true then ((laws_markLineS.f kj12 t510 1).bind fun bt529 => ((laws_markInt64S.f kj12 t513 bt529.1).bind fun bt531 => (if bt531.1 < 0 then (laws_FnExactRunAlone.j1 kj12 a0 l1 l2 t506 t507 t516 true) else ((laws_eqInt64S.f kj12 t516 t506).bind fun t533 => (if t533 = true then (laws_FnExactRunAlone.j1 kj12 a0 l1 l2 t506 t507 t516 (t517 != t507)) else (laws_FnExactRunAlone.j1 kj12 a0 l1 l2 t506 t507 t516 true)))))) else (some false)) = some r := H
       have A35 := am A350
       clear A350
       by_cases c36 : t528 = true
       ·
        subst c36
        have H1 : ((laws_markLineS.f kj12 t510 1).bind fun bt529 => ((laws_markInt64S.f kj12 t513 bt529.1).bind fun bt531 => (if bt531.1 < 0 then (laws_FnExactRunAlone.j1 kj12 a0 l1 l2 t506 t507 t516 true) else ((laws_eqInt64S.f kj12 t516 t506).bind fun t533 => (if t533 = true then (laws_FnExactRunAlone.j1 kj12 a0 l1 l2 t506 t507 t516 (t517 != t507)) else (laws_FnExactRunAlone.j1 kj12 a0 l1 l2 t506 t507 t516 true)))))) = some r := by rw [if_pos rfl] at H; exact H
        clear H
        have H := H1
        clear H1
        replace H := Option.bind_eq_some_iff.mp H
        obtain ⟨⟨t529, t530⟩, A370, H⟩ := H
        replace H : ((laws_markInt64S.f kj12 t513 t529).bind fun bt531 => (if bt531.1 < 0 then (laws_FnExactRunAlone.j1 kj12 a0 l1 l2 t506 t507 t516 true) else ((laws_eqInt64S.f kj12 t516 t506).bind fun t533 => (if t533 = true then (laws_FnExactRunAlone.j1 kj12 a0 l1 l2 t506 t507 t516 (t517 != t507)) else (laws_FnExactRunAlone.j1 kj12 a0 l1 l2 t506 t507 t516 true))))) = some r := H
        have A37 := am A370
        clear A370
        replace H := Option.bind_eq_some_iff.mp H
        obtain ⟨⟨t531, t532⟩, A380, H⟩ := H
        replace H : (if t531 < 0 then (laws_FnExactRunAlone.j1 kj12 a0 l1 l2 t506 t507 t516 true) else ((laws_eqInt64S.f kj12 t516 t506).bind fun t533 => (if t533 = true then (laws_FnExactRunAlone.j1 kj12 a0 l1 l2 t506 t507 t516 (t517 != t507)) else (laws_FnExactRunAlone.j1 kj12 a0 l1 l2 t506 t507 t516 true)))) = some r := H
        have A38 := am A380
        clear A380
        have HC39 := am H
        clear H
        go_upto_region 20 with (first | ((with_reducible refine gate_callee (f := 21) rfl ?_); refine goesL_ (some 58) rfl rfl Try.func21 (by kernel_rfl) rfl #[.slice A1 l1.length c1] rfl (by (try simp only [List.map_toArray, List.map_cons, List.map_nil]); first | done | rfl | (simp only [List.length_drop, List.length_take]; rfl)) ?_; (with_reducible refine (laws_toLineS.calls kj12 _ _ l1 t521 _ ?side1 ?side2 A31.out).mono ?_); (case side1 => repeat (first | exact (Kd.C_below HR1.out HB.out) | (with_reducible refine Kd.C_alloc ?_ _) | (with_reducible refine Kd.C_drewN ?_ _) | (with_reducible refine Kd.C_drew ?_))); (case side2 => exact HC1.out); rintro e w40 ⟨v522, rfl, ho0, hb⟩; refine ⟨_, rfl, ?_⟩; have n0_ := am (Kd.R_below (rst HO_8.out) hb); have n1_ := am (Kd.R_elder' (rst HO_10.out) (Kd.R_base ho0) hb); have n2_ := am (Kd.R_below (rst HO_11.out) hb); have n3_ := am (Kd.R_below (rst HO_12.out) hb); have n4_ := am (Kd.R_lower (Kd.R_new' ho0 (Kd.R_lt (rst HO_10.out))) (below_size (bst HB))); have n5_ := am (below_step (bst HB) hb); clear HO_8; clear HO_10; clear HO_11; clear HO_12; clear HB; have HO_8 := n0_; have HO_10 := n1_; have HO_11 := n2_; have HO_12 := n3_; have HO523 := n4_; have HB := n5_; clear n0_ n1_ n2_ n3_ n4_ n5_; (try clear hb); (try clear hb2); (try clear hk); (try clear hi); (try clear ho0); obtain ⟨Ao41, co41, eo41⟩ := Kd.R_slice HO523.out; subst eo41) | ((with_reducible refine gate_callee (f := 23) rfl ?_); refine goesL_ (some 59) rfl rfl Try.func23 (by kernel_rfl) rfl #[.slice Ao21 t510.length co21, .slice Ao41 t521.length co41] rfl (by (try simp only [List.map_toArray, List.map_cons, List.map_nil]); first | done | rfl | (simp only [List.length_drop, List.length_take]; rfl)) ?_; (with_reducible refine (laws_eqLineS.calls kj12 _ _ t510 _ _ t521 true _ ?side1 ?side2 ?side3 ?side4 A32.out).mono ?_); (case side1 => repeat (first | exact (Kd.R_reads' HO_10.out).2.2 | (with_reducible refine Kd.C_alloc ?_ _) | (with_reducible refine Kd.C_drewN ?_ _) | (with_reducible refine Kd.C_drew ?_))); (case side2 => exact (Kd.R_reads' HO_10.out).2.1); (case side3 => repeat (first | exact (Kd.R_reads' HO523.out).2.2 | (with_reducible refine Kd.C_alloc ?_ _) | (with_reducible refine Kd.C_drewN ?_ _) | (with_reducible refine Kd.C_drew ?_))); (case side4 => exact (Kd.R_reads' HO523.out).2.1); rintro e w42 ⟨rfl, hb⟩; refine ⟨_, rfl, ?_⟩; have n0_ := am (Kd.R_below (rst HO_8.out) hb); have n1_ := am (Kd.R_below (rst HO_10.out) hb); have n2_ := am (Kd.R_below (rst HO_11.out) hb); have n3_ := am (Kd.R_below (rst HO_12.out) hb); have n4_ := am (Kd.R_below (rst HO523.out) hb); have n5_ := am (below_step (bst HB) hb); clear HO_8; clear HO_10; clear HO_11; clear HO_12; clear HO523; clear HB; have HO_8 := n0_; have HO_10 := n1_; have HO_11 := n2_; have HO_12 := n3_; have HO523 := n4_; have HB := n5_; clear n0_ n1_ n2_ n3_ n4_ n5_; (try clear hb); (try clear hb2); (try clear hk); (try clear hi)) | ((with_reducible refine gate_callee (f := 12) rfl ?_); refine goesL_ (some 63) rfl rfl Try.func12 (by kernel_rfl) rfl #[.slice A2 l2.length c2] rfl (by (try simp only [List.map_toArray, List.map_cons, List.map_nil]); first | done | rfl | (simp only [List.length_drop, List.length_take]; rfl)) ?_; (with_reducible refine (laws_toInt64S.calls kj12 _ _ l2 t525 _ ?side1 ?side2 A34.out).mono ?_); (case side1 => repeat (first | exact (Kd.C_below HR2.out HB.out) | (with_reducible refine Kd.C_alloc ?_ _) | (with_reducible refine Kd.C_drewN ?_ _) | (with_reducible refine Kd.C_drew ?_))); (case side2 => exact HC2.out); rintro e w43 ⟨v526, rfl, ho0, hb⟩; refine ⟨_, rfl, ?_⟩; have n0_ := am (Kd.R_elder' (rst HO_8.out) (Kd.R_base ho0) hb); have n1_ := am (Kd.R_below (rst HO_10.out) hb); have n2_ := am (Kd.R_elder' (rst HO_11.out) (Kd.R_base ho0) hb); have n3_ := am (Kd.R_elder' (rst HO_12.out) (Kd.R_base ho0) hb); have n4_ := am (Kd.R_below (rst HO523.out) hb); have n5_ := am (Kd.R_lower (Kd.R_new' (Kd.R_new' (Kd.R_new' ho0 (Kd.R_lt (rst HO_8.out))) (Kd.R_lt (rst HO_11.out))) (Kd.R_lt (rst HO_12.out))) (below_size (bst HB))); have n6_ := am (below_step (bst HB) hb); clear HO_8; clear HO_10; clear HO_11; clear HO_12; clear HO523; clear HB; have HO_8 := n0_; have HO_10 := n1_; have HO_11 := n2_; have HO_12 := n3_; have HO523 := n4_; have HO527 := n5_; have HB := n6_; clear n0_ n1_ n2_ n3_ n4_ n5_ n6_; (try clear hb); (try clear hb2); (try clear hk); (try clear hi); (try clear ho0); obtain ⟨Ao44, co44, eo44⟩ := Kd.R_slice HO527.out; subst eo44) | ((with_reducible refine gate_callee (f := 14) rfl ?_); refine goesL_ (some 64) rfl rfl Try.func14 (by kernel_rfl) rfl #[.slice Ao22 t513.length co22, .slice Ao44 t525.length co44] rfl (by (try simp only [List.map_toArray, List.map_cons, List.map_nil]); first | done | rfl | (simp only [List.length_drop, List.length_take]; rfl)) ?_; (with_reducible refine (laws_eqInt64S.calls kj12 _ _ t513 _ _ t525 true _ ?side1 ?side2 ?side3 ?side4 A35.out).mono ?_); (case side1 => repeat (first | exact (Kd.R_reads' HO_11.out).2.2 | (with_reducible refine Kd.C_alloc ?_ _) | (with_reducible refine Kd.C_drewN ?_ _) | (with_reducible refine Kd.C_drew ?_))); (case side2 => exact (Kd.R_reads' HO_11.out).2.1); (case side3 => repeat (first | exact (Kd.R_reads' HO527.out).2.2 | (with_reducible refine Kd.C_alloc ?_ _) | (with_reducible refine Kd.C_drewN ?_ _) | (with_reducible refine Kd.C_drew ?_))); (case side4 => exact (Kd.R_reads' HO527.out).2.1); rintro e w' ⟨rfl, ⟨nd, rfl⟩⟩; refine ⟨_, rfl, ?_⟩) | ((with_reducible refine gate_callee (f := 32) rfl ?_); refine goesL_ (some 68) rfl rfl Try.func32 (by kernel_rfl) rfl #[.slice Ao21 t510.length co21, .int .i64 1] rfl (by (try simp only [List.map_toArray, List.map_cons, List.map_nil]); first | done | rfl | (simp only [List.length_drop, List.length_take]; rfl)) ?_; (with_reducible refine (laws_markLineS.calls kj12 (fun k_ => some k_ = (.slice Ao21 t510.length co21 : Value).ownBlock) (.slice Ao21 t510.length co21) t510 1 t529 t530 w _ ?side1 ?side2 A37.out).mono ?_); (case side1 => repeat (first | (with_reducible first | exact HB.out | apply below_alloc | apply pw_below_drewN | apply below_drew1) | exact HB.out)); (case side2 => exact Kd.R_tight rfl HO_10.out); rintro e w45 ⟨rfl, hy0, hb, hkp⟩; refine ⟨_, rfl, ?_⟩; have n0_ := am (Kd.R_mono (ok' := fun k_ => some k_ ≠ (.slice Ao22 t513.length co22 : Value).ownBlock ∧ some k_ ≠ (v518 : Value).ownBlock ∧ some k_ ≠ (.slice Ao44 t525.length co44 : Value).ownBlock) (Kd.R_keptB ((Kd.R_apart' HO_8.out (Kd.R_typed HO_10.out) (by decide))) hkp (fun k_ hk_ hs_ => (hk_.2) hs_)) (fun k_ hk_ => ⟨hk_.1.1.1.1, hk_.1.1.1.2, hk_.1.1.2⟩)); have n1_ := am (Kd.R_reok rfl hy0 (fun k_ e_ => HO_10.out.1 k_ e_)); have n2_ := am (Kd.R_mono (ok' := fun k_ => some k_ ≠ (v508 : Value).ownBlock ∧ some k_ ≠ (v518 : Value).ownBlock ∧ some k_ ≠ (.slice Ao44 t525.length co44 : Value).ownBlock) (Kd.R_keptB ((Kd.R_apart' HO_11.out (Kd.R_typed HO_10.out) (by decide))) hkp (fun k_ hk_ hs_ => (hk_.2) hs_)) (fun k_ hk_ => ⟨hk_.1.1.1.1, hk_.1.1.1.2, hk_.1.1.2⟩)); have n3_ := am (Kd.R_mono (ok' := fun k_ => some k_ ≠ (v508 : Value).ownBlock ∧ some k_ ≠ (.slice Ao22 t513.length co22 : Value).ownBlock ∧ some k_ ≠ (.slice Ao44 t525.length co44 : Value).ownBlock) (Kd.R_keptB ((Kd.R_apart' HO_12.out (Kd.R_typed HO_10.out) (by decide))) hkp (fun k_ hk_ hs_ => (hk_.2) hs_)) (fun k_ hk_ => ⟨hk_.1.1.1.1, hk_.1.1.1.2, hk_.1.1.2⟩)); have n4_ := am (Kd.R_mono (ok' := fun k_ => some k_ ≠ (.slice Ao21 t510.length co21 : Value).ownBlock) (Kd.R_keptB (HO523.out) hkp (fun k_ hk_ hs_ => (hk_.2) hs_)) (fun k_ hk_ => hk_.1.2)); have n5_ := am (Kd.R_mono (ok' := fun k_ => some k_ ≠ (v508 : Value).ownBlock ∧ some k_ ≠ (.slice Ao22 t513.length co22 : Value).ownBlock ∧ some k_ ≠ (v518 : Value).ownBlock) (Kd.R_keptB ((Kd.R_apart' HO527.out (Kd.R_typed HO_10.out) (by decide))) hkp (fun k_ hk_ hs_ => (hk_.2) hs_)) (fun k_ hk_ => ⟨hk_.1.1.1.1.2, hk_.1.1.1.2, hk_.1.1.2⟩)); have n6_ := am (hb); clear HO_8; clear HO_10; clear HO_11; clear HO_12; clear HO523; clear HO527; clear HB; have HO_8 := n0_; have HO_10 := n1_; have HO_11 := n2_; have HO_12 := n3_; have HO523 := n4_; have HO527 := n5_; have HB := n6_; clear n0_ n1_ n2_ n3_ n4_ n5_ n6_; (try clear hb); (try clear hkp); (try clear hy0)) | ((with_reducible refine gate_callee (f := 15) rfl ?_); refine goesL_ (some 71) rfl rfl Try.func15 (by kernel_rfl) rfl #[.slice Ao22 t513.length co22, .int .i64 t529] rfl (by (try simp only [List.map_toArray, List.map_cons, List.map_nil]); first | done | rfl | (simp only [List.length_drop, List.length_take]; rfl)) ?_; (with_reducible refine (laws_markInt64S.calls kj12 (fun k_ => some k_ = (.slice Ao22 t513.length co22 : Value).ownBlock) (.slice Ao22 t513.length co22) t513 t529 t531 t532 w _ ?side1 ?side2 A38.out).mono ?_); (case side1 => repeat (first | (with_reducible first | exact HB.out | apply below_alloc | apply pw_below_drewN | apply below_drew1) | exact HB.out)); (case side2 => exact Kd.R_tight rfl HO_11.out); rintro e w46 ⟨rfl, hy0, hb, hkp⟩; refine ⟨_, rfl, ?_⟩; have n0_ := am (Kd.R_mono (ok' := fun k_ => some k_ ≠ (.slice Ao22 t513.length co22 : Value).ownBlock ∧ some k_ ≠ (v518 : Value).ownBlock ∧ some k_ ≠ (.slice Ao44 t525.length co44 : Value).ownBlock) (Kd.R_keptB (HO_8.out) hkp (fun k_ hk_ hs_ => (hk_.1) hs_)) (fun k_ hk_ => ⟨hk_.1.1, hk_.1.2.1, hk_.1.2.2⟩)); have n1_ := am (Kd.R_mono (ok' := fun k_ => some k_ ≠ (.slice Ao41 t521.length co41 : Value).ownBlock) (Kd.R_keptB ((Kd.R_apart' HO_10.out (Kd.R_typed HO_11.out) (by decide))) hkp (fun k_ hk_ hs_ => (hk_.2) hs_)) (fun k_ hk_ => hk_.1.1.2)); have n2_ := am (Kd.R_reok rfl hy0 (fun k_ e_ => HO_11.out.1 k_ e_)); have n3_ := am (Kd.R_mono (ok' := fun k_ => some k_ ≠ (v508 : Value).ownBlock ∧ some k_ ≠ (.slice Ao22 t513.length co22 : Value).ownBlock ∧ some k_ ≠ (.slice Ao44 t525.length co44 : Value).ownBlock) (Kd.R_keptB (HO_12.out) hkp (fun k_ hk_ hs_ => (hk_.2.1) hs_)) (fun k_ hk_ => ⟨hk_.1.1, hk_.1.2.1, hk_.1.2.2⟩)); have n4_ := am (Kd.R_mono (ok' := fun k_ => some k_ ≠ (.slice Ao21 t510.length co21 : Value).ownBlock) (Kd.R_keptB ((Kd.R_apart' HO523.out (Kd.R_typed HO_11.out) (by decide))) hkp (fun k_ hk_ hs_ => (hk_.2) hs_)) (fun k_ hk_ => hk_.1.1)); have n5_ := am (Kd.R_mono (ok' := fun k_ => some k_ ≠ (v508 : Value).ownBlock ∧ some k_ ≠ (.slice Ao22 t513.length co22 : Value).ownBlock ∧ some k_ ≠ (v518 : Value).ownBlock) (Kd.R_keptB (HO527.out) hkp (fun k_ hk_ hs_ => (hk_.2.1) hs_)) (fun k_ hk_ => ⟨hk_.1.1, hk_.1.2.1, hk_.1.2.2⟩)); have n6_ := am (hb); clear HO_8; clear HO_10; clear HO_11; clear HO_12; clear HO523; clear HO527; clear HB; have HO_8 := n0_; have HO_10 := n1_; have HO_11 := n2_; have HO_12 := n3_; have HO523 := n4_; have HO527 := n5_; have HB := n6_; clear n0_ n1_ n2_ n3_ n4_ n5_ n6_; (try clear hb); (try clear hkp); (try clear hy0)))
        (try simp only [Act.put, List.setIfInBounds_toArray, List.set_cons_zero, List.set_cons_succ])
        go_cut [84] (fun v84 wc => ∃ (kq : Nat) (x84_38 : Bool), v84 = .bool x84_38 ∧ Aside0 (laws_FnExactRunAlone.j1 kq a0 l1 l2 t506 t507 t516 x84_38 = some r) ∧ Aside0 (kq ≤ kj12) ∧ Aside0 (Kd.R (Kd.int .i64) 2 wc w.heap.size (fun k_ => some k_ ≠ (v518 : Value).ownBlock) v508 t506) ∧ Aside0 (Kd.R (Kd.int .i64) 2 wc w.heap.size (fun k_ => some k_ ≠ (v508 : Value).ownBlock) v518 t516) ∧ Aside0 (Below w.heap.size w wc))
        case first =>
         have H := HC39.out
         clear HC39
         by_cases c47 : t531 < 0
         ·
          rw [if_pos c47] at H
          have c47b0 : decide (t531 < 0) = true := decide_eq_true c47
          clear c47
          (first | rw [c47b0] | (simp only [i64_w, i32_w]; rw [c47b0]) | skip)
          have H' := am H; clear H
          go_wp2
          go_meet
          case rel => exact ⟨_, (true), (by first | rfl | (simp; done) | (simp [*]; done)), H', ⟨by have := HJ12.out; first | omega | exact Nat.le_refl _⟩, ⟨by first | exact rst (Kd.R_mono HO_8.out (fun _ hk => hk.2.1)) | exact Kd.R_mono (rst (Kd.R_mono HO_8.out (fun _ hk => hk.2.1))) (by intro k_ hk_; simpa only [ob_eq] using hk_)⟩, ⟨by first | exact rst (Kd.R_mono HO_12.out (fun _ hk => hk.1)) | exact Kd.R_mono (rst (Kd.R_mono HO_12.out (fun _ hk => hk.1))) (by intro k_ hk_; simpa only [ob_eq] using hk_)⟩, ⟨bst HB⟩⟩
         ·
          rw [if_neg c47] at H
          have c47b0 : decide (t531 < 0) = false := decide_eq_false c47
          clear c47
          (first | rw [c47b0] | (simp only [i64_w, i32_w]; rw [c47b0]) | skip)
          replace H := Option.bind_eq_some_iff.mp H
          obtain ⟨t533, A480, H⟩ := H
          replace H : (if t533 = true then (laws_FnExactRunAlone.j1 kj12 a0 l1 l2 t506 t507 t516 (t517 != t507)) else (laws_FnExactRunAlone.j1 kj12 a0 l1 l2 t506 t507 t516 true)) = some r := H
          have A48 := am A480
          clear A480
          by_cases c49 : t533 = true
          ·
           subst c49
           have H1 : (laws_FnExactRunAlone.j1 kj12 a0 l1 l2 t506 t507 t516 (t517 != t507)) = some r := by rw [if_pos rfl] at H; exact H
           clear H
           have H := H1
           clear H1; have H' := am H; clear H
           obtain ⟨Ao50, co50, eo50⟩ := Kd.R_slice HO_12.out
           subst eo50
           obtain ⟨Ao51, co51, eo51⟩ := Kd.R_slice HO_8.out
           subst eo51
           go_wp2_with (first | (go_at_call 14; (with_reducible refine (laws_eqInt64S.calls kj12 _ _ t516 _ _ t506 true _ ?side1 ?side2 ?side3 ?side4 A48.out).mono ?_); (case side1 => repeat (first | exact (Kd.R_reads' HO_12.out).2.2 | (with_reducible refine Kd.C_alloc ?_ _) | (with_reducible refine Kd.C_drewN ?_ _) | (with_reducible refine Kd.C_drew ?_))); (case side2 => exact (Kd.R_reads' HO_12.out).2.1); (case side3 => repeat (first | exact (Kd.R_reads' HO_8.out).2.2 | (with_reducible refine Kd.C_alloc ?_ _) | (with_reducible refine Kd.C_drewN ?_ _) | (with_reducible refine Kd.C_drew ?_))); (case side4 => exact (Kd.R_reads' HO_8.out).2.1); rintro e w' ⟨rfl, ⟨nd, rfl⟩⟩))
           go_meet
           case rel => exact ⟨_, ((t517 != t507)), (by first | rfl | (simp; done) | (simp [*]; done)), H', ⟨by have := HJ12.out; first | omega | exact Nat.le_refl _⟩, ⟨by first | exact rst (Kd.R_mono HO_8.out (fun _ hk => hk.2.1)) | exact Kd.R_mono (rst (Kd.R_mono HO_8.out (fun _ hk => hk.2.1))) (by intro k_ hk_; simpa only [ob_eq] using hk_)⟩, ⟨by first | exact rst (Kd.R_mono HO_12.out (fun _ hk => hk.1)) | exact Kd.R_mono (rst (Kd.R_mono HO_12.out (fun _ hk => hk.1))) (by intro k_ hk_; simpa only [ob_eq] using hk_)⟩, ⟨bst HB⟩⟩
          ·
           replace c49 := Bool.eq_false_iff.mpr c49
           subst c49
           have H1 : (laws_FnExactRunAlone.j1 kj12 a0 l1 l2 t506 t507 t516 true) = some r := by rw [if_neg (show ¬ (false = true) by decide)] at H; exact H
           clear H
           have H := H1
           clear H1; have H' := am H; clear H
           obtain ⟨Ao52, co52, eo52⟩ := Kd.R_slice HO_12.out
           subst eo52
           obtain ⟨Ao53, co53, eo53⟩ := Kd.R_slice HO_8.out
           subst eo53
           go_wp2_with (first | (go_at_call 14; (with_reducible refine (laws_eqInt64S.calls kj12 _ _ t516 _ _ t506 false _ ?side1 ?side2 ?side3 ?side4 A48.out).mono ?_); (case side1 => repeat (first | exact (Kd.R_reads' HO_12.out).2.2 | (with_reducible refine Kd.C_alloc ?_ _) | (with_reducible refine Kd.C_drewN ?_ _) | (with_reducible refine Kd.C_drew ?_))); (case side2 => exact (Kd.R_reads' HO_12.out).2.1); (case side3 => repeat (first | exact (Kd.R_reads' HO_8.out).2.2 | (with_reducible refine Kd.C_alloc ?_ _) | (with_reducible refine Kd.C_drewN ?_ _) | (with_reducible refine Kd.C_drew ?_))); (case side4 => exact (Kd.R_reads' HO_8.out).2.1); rintro e w' ⟨rfl, ⟨nd, rfl⟩⟩))
           go_meet
           case rel => exact ⟨_, (true), (by first | rfl | (simp; done) | (simp [*]; done)), H', ⟨by have := HJ12.out; first | omega | exact Nat.le_refl _⟩, ⟨by first | exact rst (Kd.R_mono HO_8.out (fun _ hk => hk.2.1)) | exact Kd.R_mono (rst (Kd.R_mono HO_8.out (fun _ hk => hk.2.1))) (by intro k_ hk_; simpa only [ob_eq] using hk_)⟩, ⟨by first | exact rst (Kd.R_mono HO_12.out (fun _ hk => hk.1)) | exact Kd.R_mono (rst (Kd.R_mono HO_12.out (fun _ hk => hk.1))) (by intro k_ hk_; simpa only [ob_eq] using hk_)⟩, ⟨bst HB⟩⟩
        case rest =>
         clear HC39; (try clear c1); (try clear c2); (try clear p2); (try clear c3); (try clear c4); (try clear c4b0); (try clear c4b1); (try clear c6); (try clear c6b0); (try clear c8); (try clear c12); (try clear c14); (try clear c15); (try clear c19); (try clear c21); (try clear c23); (try clear c25); (try clear c30); (try clear c32); (try clear c33); (try clear c34); (try clear c36); (try clear c47); (try clear c47b0); (try clear c49); (try clear p2)
         obtain ⟨kq, x84_38, rfl, HA, HJ38, HO_8, HO_12, HB⟩ := hcut
         cases kq with
         | zero => exact absurd HA.out (by simp [laws_FnExactRunAlone.j1])
         | succ kj38 =>
          have H := HA.out
          clear HA
          simp only [laws_FnExactRunAlone.j1] at H
          by_cases c54 : x84_38 = true
          ·
           subst c54
           have H1 : (some false) = some r := by rw [if_pos rfl] at H; exact H
           clear H
           have H := H1
           clear H1
           obtain rfl := Option.some.inj H
           go_wp2
           go_ret
           exact ⟨by first | rfl | (simp [errW_none, errW_some] <;> rfl) | (simp [*, errW_none, errW_some] <;> rfl), by repeat (first | (with_reducible first | exact HB.out | apply below_alloc | apply pw_below_drewN | apply below_drew1) | exact HB.out)⟩
          ·
           replace c54 := Bool.eq_false_iff.mpr c54
           subst c54
           have H1 : ((laws_markInt64S.f kj38 t516 1).bind fun bt534 => ((laws_heldInt64S.f kj38 bt534.2 1).bind fun t536 => (if t536 < 0 then (some false) else (if t536 = bt534.1 then ((laws_toLineS.f kj38 l1).bind fun t537 => ((laws_toInt64S.f kj38 l2).bind fun t540 => ((impl_RunAlone.f kj38 a0 t537 t540).bind fun bt543 => ((laws_eqInt64S.f kj38 bt543.1 t506).bind fun t547 => (if t547 = true then (laws_FnExactRunAlone.j2 kj38 bt534.2 bt534.1 (bt543.2 != t507)) else (laws_FnExactRunAlone.j2 kj38 bt534.2 bt534.1 true)))))) else (some false))))) = some r := by rw [if_neg (show ¬ (false = true) by decide)] at H; exact H
           clear H
           have H := H1
           clear H1
           replace H := Option.bind_eq_some_iff.mp H
           obtain ⟨⟨t534, t535⟩, A550, H⟩ := H
           replace H : ((laws_heldInt64S.f kj38 t535 1).bind fun t536 => (if t536 < 0 then (some false) else (if t536 = t534 then ((laws_toLineS.f kj38 l1).bind fun t537 => ((laws_toInt64S.f kj38 l2).bind fun t540 => ((impl_RunAlone.f kj38 a0 t537 t540).bind fun bt543 => ((laws_eqInt64S.f kj38 bt543.1 t506).bind fun t547 => (if t547 = true then (laws_FnExactRunAlone.j2 kj38 t535 t534 (bt543.2 != t507)) else (laws_FnExactRunAlone.j2 kj38 t535 t534 true)))))) else (some false)))) = some r := H
           have A55 := am A550
           clear A550
           replace H := Option.bind_eq_some_iff.mp H
           obtain ⟨t536, A560, H⟩ := H
           replace H : (if t536 < 0 then (some false) else (if t536 = t534 then ((laws_toLineS.f kj38 l1).bind fun t537 => ((laws_toInt64S.f kj38 l2).bind fun t540 => ((impl_RunAlone.f kj38 a0 t537 t540).bind fun bt543 => ((laws_eqInt64S.f kj38 bt543.1 t506).bind fun t547 => (if t547 = true then (laws_FnExactRunAlone.j2 kj38 t535 t534 (bt543.2 != t507)) else (laws_FnExactRunAlone.j2 kj38 t535 t534 true)))))) else (some false))) = some r := H
           have A56 := am A560
           clear A560
           by_cases c57 : t536 < 0
           ·
            rw [if_pos c57] at H
            have c57b0 : decide (t536 < 0) = true := decide_eq_true c57
            clear c57
            obtain rfl := Option.some.inj H
            obtain ⟨Ao58, co58, eo58⟩ := Kd.R_slice HO_12.out
            subst eo58
            go_wp2_with (first | ((with_reducible refine gate_callee (f := 15) rfl ?_); refine goesL_ (some 87) rfl rfl Try.func15 (by kernel_rfl) rfl #[.slice Ao58 t516.length co58, .int .i64 1] rfl (by (try simp only [List.map_toArray, List.map_cons, List.map_nil]); first | done | rfl | (simp only [List.length_drop, List.length_take]; rfl)) ?_; (with_reducible refine (laws_markInt64S.calls kj38 (fun k_ => some k_ = (.slice Ao58 t516.length co58 : Value).ownBlock) (.slice Ao58 t516.length co58) t516 1 t534 t535 w _ ?side1 ?side2 A55.out).mono ?_); (case side1 => repeat (first | (with_reducible first | exact HB.out | apply below_alloc | apply pw_below_drewN | apply below_drew1) | exact HB.out)); (case side2 => exact Kd.R_tight rfl HO_12.out); rintro e w59 ⟨rfl, hy0, hb, hkp⟩; refine ⟨_, rfl, ?_⟩; have n0_ := am (Kd.R_mono (ok' := fun k_ => some k_ ≠ (.slice Ao58 t516.length co58 : Value).ownBlock) (Kd.R_keptB (HO_8.out) hkp (fun k_ hk_ hs_ => (hk_) hs_)) (fun k_ hk_ => hk_.1)); have n1_ := am (Kd.R_reok rfl hy0 (fun k_ e_ => HO_12.out.1 k_ e_)); have n2_ := am (hb); clear HO_8; clear HO_12; clear HB; have HO_8 := n0_; have HO_12 := n1_; have HB := n2_; clear n0_ n1_ n2_; (try clear hb); (try clear hkp); (try clear hy0)) | ((with_reducible refine gate_callee (f := 16) rfl ?_); refine goesL_ (some 90) rfl rfl Try.func16 (by kernel_rfl) rfl #[.slice Ao58 t535.length co58, .int .i64 1] rfl (by (try simp only [List.map_toArray, List.map_cons, List.map_nil]); first | done | (rw [show t535.length = t516.length from (Kd.R_reads' HO_12.out).1.symm] <;> rfl) | rfl | (simp only [List.length_drop, List.length_take]; rfl)) ?_; (with_reducible refine (laws_heldInt64S.calls kj38 _ _ t535 1 t536 _ ?side1 ?side2 A56.out).mono ?_); (case side1 => repeat (first | exact (Kd.R_reads' HO_12.out).2.2 | (with_reducible refine Kd.C_alloc ?_ _) | (with_reducible refine Kd.C_drewN ?_ _) | (with_reducible refine Kd.C_drew ?_))); (case side2 => rw [show t535.length = t516.length from (Kd.R_reads' HO_12.out).1.symm]; exact (Kd.R_reads' HO_12.out).2.1); rintro e w' ⟨rfl, ⟨nd, rfl⟩⟩; refine ⟨_, rfl, ?_⟩))
            go_ret
            exact ⟨by first | rfl | (simp [errW_none, errW_some] <;> rfl) | (simp [*, errW_none, errW_some] <;> rfl), by repeat (first | (with_reducible first | exact HB.out | apply below_alloc | apply pw_below_drewN | apply below_drew1) | exact HB.out)⟩
           ·
            rw [if_neg c57] at H
            have c57b0 : decide (t536 < 0) = false := decide_eq_false c57
            clear c57
            by_cases c60 : t536 = t534
            ·
             rw [if_pos c60] at H
             have c60b0 : (t536 == t534) = true := beq_iff_eq.mpr c60
             have c60b1 : (t536 != t534) = false := bne_eq_false_iff_eq.mpr c60
             clear c60
             replace H := Option.bind_eq_some_iff.mp H
             obtain ⟨t537, A610, H⟩ := H
             replace H : ((laws_toInt64S.f kj38 l2).bind fun t540 => ((impl_RunAlone.f kj38 a0 t537 t540).bind fun bt543 => ((laws_eqInt64S.f kj38 bt543.1 t506).bind fun t547 => (if t547 = true then (laws_FnExactRunAlone.j2 kj38 t535 t534 (bt543.2 != t507)) else (laws_FnExactRunAlone.j2 kj38 t535 t534 true))))) = some r := H
             have A61 := am A610
             clear A610
             replace H := Option.bind_eq_some_iff.mp H
             obtain ⟨t540, A620, H⟩ := H
             replace H : ((impl_RunAlone.f kj38 a0 t537 t540).bind fun bt543 => ((laws_eqInt64S.f kj38 bt543.1 t506).bind fun t547 => (if t547 = true then (laws_FnExactRunAlone.j2 kj38 t535 t534 (bt543.2 != t507)) else (laws_FnExactRunAlone.j2 kj38 t535 t534 true)))) = some r := H
             have A62 := am A620
             clear A620
             replace H := Option.bind_eq_some_iff.mp H
             obtain ⟨⟨t543, t544⟩, A630, H⟩ := H
             replace H : ((laws_eqInt64S.f kj38 t543 t506).bind fun t547 => (if t547 = true then (laws_FnExactRunAlone.j2 kj38 t535 t534 (t544 != t507)) else (laws_FnExactRunAlone.j2 kj38 t535 t534 true))) = some r := H
             have A63 := am A630
             clear A630
             have HC64 := am H
             clear H
             obtain ⟨Ao65, co65, eo65⟩ := Kd.R_slice HO_12.out
             subst eo65
             go_upto_region 31 with (first | ((with_reducible refine gate_callee (f := 15) rfl ?_); refine goesL_ (some 87) rfl rfl Try.func15 (by kernel_rfl) rfl #[.slice Ao65 t516.length co65, .int .i64 1] rfl (by (try simp only [List.map_toArray, List.map_cons, List.map_nil]); first | done | rfl | (simp only [List.length_drop, List.length_take]; rfl)) ?_; (with_reducible refine (laws_markInt64S.calls kj38 (fun k_ => some k_ = (.slice Ao65 t516.length co65 : Value).ownBlock) (.slice Ao65 t516.length co65) t516 1 t534 t535 w _ ?side1 ?side2 A55.out).mono ?_); (case side1 => repeat (first | (with_reducible first | exact HB.out | apply below_alloc | apply pw_below_drewN | apply below_drew1) | exact HB.out)); (case side2 => exact Kd.R_tight rfl HO_12.out); rintro e w66 ⟨rfl, hy0, hb, hkp⟩; refine ⟨_, rfl, ?_⟩; have n0_ := am (Kd.R_mono (ok' := fun k_ => some k_ ≠ (.slice Ao65 t516.length co65 : Value).ownBlock) (Kd.R_keptB (HO_8.out) hkp (fun k_ hk_ hs_ => (hk_) hs_)) (fun k_ hk_ => hk_.1)); have n1_ := am (Kd.R_reok rfl hy0 (fun k_ e_ => HO_12.out.1 k_ e_)); have n2_ := am (hb); clear HO_8; clear HO_12; clear HB; have HO_8 := n0_; have HO_12 := n1_; have HB := n2_; clear n0_ n1_ n2_; (try clear hb); (try clear hkp); (try clear hy0)) | ((with_reducible refine gate_callee (f := 16) rfl ?_); refine goesL_ (some 90) rfl rfl Try.func16 (by kernel_rfl) rfl #[.slice Ao65 t535.length co65, .int .i64 1] rfl (by (try simp only [List.map_toArray, List.map_cons, List.map_nil]); first | done | (rw [show t535.length = t516.length from (Kd.R_reads' HO_12.out).1.symm] <;> rfl) | rfl | (simp only [List.length_drop, List.length_take]; rfl)) ?_; (with_reducible refine (laws_heldInt64S.calls kj38 _ _ t535 1 t536 _ ?side1 ?side2 A56.out).mono ?_); (case side1 => repeat (first | exact (Kd.R_reads' HO_12.out).2.2 | (with_reducible refine Kd.C_alloc ?_ _) | (with_reducible refine Kd.C_drewN ?_ _) | (with_reducible refine Kd.C_drew ?_))); (case side2 => rw [show t535.length = t516.length from (Kd.R_reads' HO_12.out).1.symm]; exact (Kd.R_reads' HO_12.out).2.1); rintro e w' ⟨rfl, ⟨nd, rfl⟩⟩; refine ⟨_, rfl, ?_⟩) | ((with_reducible refine gate_callee (f := 21) rfl ?_); refine goesL_ (some 99) rfl rfl Try.func21 (by kernel_rfl) rfl #[.slice A1 l1.length c1] rfl (by (try simp only [List.map_toArray, List.map_cons, List.map_nil]); first | done | rfl | (simp only [List.length_drop, List.length_take]; rfl)) ?_; (with_reducible refine (laws_toLineS.calls kj38 _ _ l1 t537 _ ?side1 ?side2 A61.out).mono ?_); (case side1 => repeat (first | exact (Kd.C_below HR1.out (bst HB)) | (with_reducible refine Kd.C_alloc ?_ _) | (with_reducible refine Kd.C_drewN ?_ _) | (with_reducible refine Kd.C_drew ?_))); (case side2 => exact HC1.out); rintro e w67 ⟨v538, rfl, ho0, hb⟩; refine ⟨_, rfl, ?_⟩; have n0_ := am (Kd.R_below (rst HO_8.out) hb); have n1_ := am (Kd.R_below (rst HO_12.out) hb); have n2_ := am (Kd.R_lower ho0 (below_size (bst HB))); have n3_ := am (below_step (bst HB) hb); clear HO_8; clear HO_12; clear HB; have HO_8 := n0_; have HO_12 := n1_; have HO539 := n2_; have HB := n3_; clear n0_ n1_ n2_ n3_; (try clear hb); (try clear hb2); (try clear hk); (try clear hi); (try clear ho0)) | ((with_reducible refine gate_callee (f := 12) rfl ?_); refine goesL_ (some 101) rfl rfl Try.func12 (by kernel_rfl) rfl #[.slice A2 l2.length c2] rfl (by (try simp only [List.map_toArray, List.map_cons, List.map_nil]); first | done | rfl | (simp only [List.length_drop, List.length_take]; rfl)) ?_; (with_reducible refine (laws_toInt64S.calls kj38 _ _ l2 t540 _ ?side1 ?side2 A62.out).mono ?_); (case side1 => repeat (first | exact (Kd.C_below HR2.out HB.out) | (with_reducible refine Kd.C_alloc ?_ _) | (with_reducible refine Kd.C_drewN ?_ _) | (with_reducible refine Kd.C_drew ?_))); (case side2 => exact HC2.out); rintro e w68 ⟨v541, rfl, ho0, hb⟩; refine ⟨_, rfl, ?_⟩; have n0_ := am (Kd.R_elder' (rst HO_8.out) (Kd.R_base ho0) hb); have n1_ := am (Kd.R_elder' (rst HO_12.out) (Kd.R_base ho0) hb); have n2_ := am (Kd.R_below (rst HO539.out) hb); have n3_ := am (Kd.R_lower (Kd.R_new' (Kd.R_new' ho0 (Kd.R_lt (rst HO_8.out))) (Kd.R_lt (rst HO_12.out))) (below_size (bst HB))); have n4_ := am (below_step (bst HB) hb); clear HO_8; clear HO_12; clear HO539; clear HB; have HO_8 := n0_; have HO_12 := n1_; have HO539 := n2_; have HO542 := n3_; have HB := n4_; clear n0_ n1_ n2_ n3_ n4_; (try clear hb); (try clear hb2); (try clear hk); (try clear hi); (try clear ho0); obtain ⟨Ao69, co69, eo69⟩ := Kd.R_slice HO539.out; subst eo69; obtain ⟨Ao70, co70, eo70⟩ := Kd.R_slice HO542.out; subst eo70) | ((with_reducible refine gate_callee (f := 34) rfl ?_); refine goesL_ (some 102) rfl rfl Try.func34 (by kernel_rfl) rfl #[.int .i64 a0, .slice Ao69 t537.length co69, .slice Ao70 t540.length co70] rfl (by (try simp only [List.map_toArray, List.map_cons, List.map_nil]); first | done | rfl | (simp only [List.length_drop, List.length_take]; rfl)) ?_; (with_reducible refine (impl_RunAlone.calls kj38 a0 _ _ t537 _ _ t540 t543 t544 _ ?side1 ?side2 ?side3 ?side4 A63.out).mono ?_); (case side1 => repeat (first | exact (Kd.R_reads' HO539.out).2.2 | (with_reducible refine Kd.C_alloc ?_ _) | (with_reducible refine Kd.C_drewN ?_ _) | (with_reducible refine Kd.C_drew ?_))); (case side2 => exact (Kd.R_reads' HO539.out).2.1); (case side3 => repeat (first | exact (Kd.R_reads' HO542.out).2.2 | (with_reducible refine Kd.C_alloc ?_ _) | (with_reducible refine Kd.C_drewN ?_ _) | (with_reducible refine Kd.C_drew ?_))); (case side4 => exact (Kd.R_reads' HO542.out).2.1); rintro e w71 ⟨v545, rfl, ho0, hb⟩; refine ⟨_, rfl, ?_⟩; have n0_ := am (Kd.R_elder' (rst HO_8.out) (Kd.R_base ho0) hb); have n1_ := am (Kd.R_elder' (rst HO_12.out) (Kd.R_base ho0) hb); have n2_ := am (Kd.R_below (rst HO539.out) hb); have n3_ := am (Kd.R_elder' (rst HO542.out) (Kd.R_base ho0) hb); have n4_ := am (Kd.R_lower (Kd.R_new' (Kd.R_new' (Kd.R_new' ho0 (Kd.R_lt (rst HO_8.out))) (Kd.R_lt (rst HO_12.out))) (Kd.R_lt (rst HO542.out))) (below_size (bst HB))); have n5_ := am (below_step (bst HB) hb); clear HO_8; clear HO_12; clear HO539; clear HO542; clear HB; have HO_8 := n0_; have HO_12 := n1_; have HO539 := n2_; have HO542 := n3_; have HO546 := n4_; have HB := n5_; clear n0_ n1_ n2_ n3_ n4_ n5_; (try clear hb); (try clear hb2); (try clear hk); (try clear hi); (try clear ho0)))
             (try simp only [Act.put, List.setIfInBounds_toArray, List.set_cons_zero, List.set_cons_succ])
             go_cut [113] (fun v113 wc => ∃ (kq : Nat) (x113_63 : Bool), v113 = .bool x113_63 ∧ Aside0 (laws_FnExactRunAlone.j2 kq t535 t534 x113_63 = some r) ∧ Aside0 (kq ≤ kj38) ∧ Aside0 (Kd.R (Kd.int .i64) 2 wc w.heap.size (fun _ => True) (.slice Ao65 t516.length co65) t535) ∧ Aside0 (Below w.heap.size w wc))
             case first =>
              have H := HC64.out
              clear HC64
              replace H := Option.bind_eq_some_iff.mp H
              obtain ⟨t547, A720, H⟩ := H
              replace H : (if t547 = true then (laws_FnExactRunAlone.j2 kj38 t535 t534 (t544 != t507)) else (laws_FnExactRunAlone.j2 kj38 t535 t534 true)) = some r := H
              have A72 := am A720
              clear A720
              by_cases c73 : t547 = true
              ·
               subst c73
               have H1 : (laws_FnExactRunAlone.j2 kj38 t535 t534 (t544 != t507)) = some r := by rw [if_pos rfl] at H; exact H
               clear H
               have H := H1
               clear H1; have H' := am H; clear H
               obtain ⟨Ao74, co74, eo74⟩ := Kd.R_slice HO546.out
               subst eo74
               obtain ⟨Ao75, co75, eo75⟩ := Kd.R_slice HO_8.out
               subst eo75
               go_wp2_with (first | ((with_reducible refine gate_callee (f := 14) rfl ?_); refine goesL_ (some 107) rfl rfl Try.func14 (by kernel_rfl) rfl #[.slice Ao74 t543.length co74, .slice Ao75 t506.length co75] rfl (by (try simp only [List.map_toArray, List.map_cons, List.map_nil]); first | done | rfl | (simp only [List.length_drop, List.length_take]; rfl)) ?_; (with_reducible refine (laws_eqInt64S.calls kj38 _ _ t543 _ _ t506 true _ ?side1 ?side2 ?side3 ?side4 A72.out).mono ?_); (case side1 => repeat (first | exact (Kd.R_reads' HO546.out).2.2 | (with_reducible refine Kd.C_alloc ?_ _) | (with_reducible refine Kd.C_drewN ?_ _) | (with_reducible refine Kd.C_drew ?_))); (case side2 => exact (Kd.R_reads' HO546.out).2.1); (case side3 => repeat (first | exact (Kd.R_reads' HO_8.out).2.2 | (with_reducible refine Kd.C_alloc ?_ _) | (with_reducible refine Kd.C_drewN ?_ _) | (with_reducible refine Kd.C_drew ?_))); (case side4 => exact (Kd.R_reads' HO_8.out).2.1); rintro e w' ⟨rfl, ⟨nd, rfl⟩⟩; refine ⟨_, rfl, ?_⟩))
               go_meet
               case rel => exact ⟨_, ((t544 != t507)), (by first | rfl | (simp; done) | (simp [*]; done)), H', ⟨by have := HJ12.out; have := HJ38.out; first | omega | exact Nat.le_refl _⟩, ⟨by (with_reducible repeat (first | apply Kd.R_alloc | apply Kd.R_drewN | apply Kd.R_drew)); exact Kd.R_mono HO_12.out (fun _ hk => trivial)⟩, ⟨bst HB⟩⟩
              ·
               replace c73 := Bool.eq_false_iff.mpr c73
               subst c73
               have H1 : (laws_FnExactRunAlone.j2 kj38 t535 t534 true) = some r := by rw [if_neg (show ¬ (false = true) by decide)] at H; exact H
               clear H
               have H := H1
               clear H1; have H' := am H; clear H
               obtain ⟨Ao76, co76, eo76⟩ := Kd.R_slice HO546.out
               subst eo76
               obtain ⟨Ao77, co77, eo77⟩ := Kd.R_slice HO_8.out
               subst eo77
               go_wp2_with (first | ((with_reducible refine gate_callee (f := 14) rfl ?_); refine goesL_ (some 107) rfl rfl Try.func14 (by kernel_rfl) rfl #[.slice Ao76 t543.length co76, .slice Ao77 t506.length co77] rfl (by (try simp only [List.map_toArray, List.map_cons, List.map_nil]); first | done | rfl | (simp only [List.length_drop, List.length_take]; rfl)) ?_; (with_reducible refine (laws_eqInt64S.calls kj38 _ _ t543 _ _ t506 false _ ?side1 ?side2 ?side3 ?side4 A72.out).mono ?_); (case side1 => repeat (first | exact (Kd.R_reads' HO546.out).2.2 | (with_reducible refine Kd.C_alloc ?_ _) | (with_reducible refine Kd.C_drewN ?_ _) | (with_reducible refine Kd.C_drew ?_))); (case side2 => exact (Kd.R_reads' HO546.out).2.1); (case side3 => repeat (first | exact (Kd.R_reads' HO_8.out).2.2 | (with_reducible refine Kd.C_alloc ?_ _) | (with_reducible refine Kd.C_drewN ?_ _) | (with_reducible refine Kd.C_drew ?_))); (case side4 => exact (Kd.R_reads' HO_8.out).2.1); rintro e w' ⟨rfl, ⟨nd, rfl⟩⟩; refine ⟨_, rfl, ?_⟩))
               go_meet
               case rel => exact ⟨_, (true), (by first | rfl | (simp; done) | (simp [*]; done)), H', ⟨by have := HJ12.out; have := HJ38.out; first | omega | exact Nat.le_refl _⟩, ⟨by (with_reducible repeat (first | apply Kd.R_alloc | apply Kd.R_drewN | apply Kd.R_drew)); exact Kd.R_mono HO_12.out (fun _ hk => trivial)⟩, ⟨bst HB⟩⟩
             case rest =>
              clear HC64; (try clear c1); (try clear c2); (try clear p2); (try clear c3); (try clear c4); (try clear c4b0); (try clear c4b1); (try clear c5); (try clear c6); (try clear c6b0); (try clear c7); (try clear c8); (try clear c12); (try clear c14); (try clear c15); (try clear c16); (try clear c19); (try clear c21); (try clear c23); (try clear c25); (try clear c30); (try clear c32); (try clear c33); (try clear c34); (try clear c36); (try clear c47); (try clear c47b0); (try clear c49); (try clear c54); (try clear c57); (try clear c57b0); (try clear c60); (try clear c60b0); (try clear c60b1); (try clear c73); (try clear p2)
              obtain ⟨kq, x113_63, rfl, HA, HJ63, HO_12, HB⟩ := hcut
              have hl12_63 := (Kd.R_reads' HO_12.out).1
              rw [hl12_63] at HO_12
              (try simp only [hl12_63])
              cases kq with
              | zero => exact absurd HA.out (by simp [laws_FnExactRunAlone.j2])
              | succ kj63 =>
               have H := HA.out
               clear HA
               simp only [laws_FnExactRunAlone.j2] at H
               by_cases c78 : x113_63 = true
               ·
                subst c78
                have H1 : (some false) = some r := by rw [if_pos rfl] at H; exact H
                clear H
                have H := H1
                clear H1
                obtain rfl := Option.some.inj H
                go_wp2
                go_ret
                exact ⟨by first | rfl | (simp [errW_none, errW_some] <;> rfl) | (simp [*, errW_none, errW_some] <;> rfl), by repeat (first | (with_reducible first | exact HB.out | apply below_alloc | apply pw_below_drewN | apply below_drew1) | exact HB.out)⟩
               ·
                replace c78 := Bool.eq_false_iff.mpr c78
                subst c78
                have H1 : ((laws_heldInt64S.f kj63 t535 1).bind fun t548 => (if t548 < 0 then (some false) else (if t548 = t534 then (some true) else (some false)))) = some r := by rw [if_neg (show ¬ (false = true) by decide)] at H; exact H
                clear H
                have H := H1
                clear H1
                replace H := Option.bind_eq_some_iff.mp H
                obtain ⟨t548, A790, H⟩ := H
                replace H : (if t548 < 0 then (some false) else (if t548 = t534 then (some true) else (some false))) = some r := H
                have A79 := am A790
                clear A790
                by_cases c80 : t548 < 0
                ·
                 rw [if_pos c80] at H
                 have c80b0 : decide (t548 < 0) = true := decide_eq_true c80
                 clear c80
                 obtain rfl := Option.some.inj H
                 go_wp2_with (first | ((with_reducible refine gate_callee (f := 16) rfl ?_); refine goesL_ (some 116) rfl rfl Try.func16 (by kernel_rfl) rfl #[.slice Ao65 t535.length co65, .int .i64 1] rfl (by (try simp only [List.map_toArray, List.map_cons, List.map_nil]); first | done | rfl | (simp only [List.length_drop, List.length_take]; rfl)) ?_; (with_reducible refine (laws_heldInt64S.calls kj63 _ _ t535 1 t548 _ ?side1 ?side2 A79.out).mono ?_); (case side1 => repeat (first | exact (Kd.R_reads' HO_12.out).2.2 | (with_reducible refine Kd.C_alloc ?_ _) | (with_reducible refine Kd.C_drewN ?_ _) | (with_reducible refine Kd.C_drew ?_))); (case side2 => exact (Kd.R_reads' HO_12.out).2.1); rintro e w' ⟨rfl, ⟨nd, rfl⟩⟩; refine ⟨_, rfl, ?_⟩))
                 go_ret
                 exact ⟨by first | rfl | (simp [errW_none, errW_some] <;> rfl) | (simp [*, errW_none, errW_some] <;> rfl), by repeat (first | (with_reducible first | exact HB.out | apply below_alloc | apply pw_below_drewN | apply below_drew1) | exact HB.out)⟩
                ·
                 rw [if_neg c80] at H
                 have c80b0 : decide (t548 < 0) = false := decide_eq_false c80
                 clear c80
                 by_cases c81 : t548 = t534
                 ·
                  rw [if_pos c81] at H
                  have c81b0 : (t548 == t534) = true := beq_iff_eq.mpr c81
                  have c81b1 : (t548 != t534) = false := bne_eq_false_iff_eq.mpr c81
                  clear c81
                  obtain rfl := Option.some.inj H
                  go_wp2_with (first | ((with_reducible refine gate_callee (f := 16) rfl ?_); refine goesL_ (some 116) rfl rfl Try.func16 (by kernel_rfl) rfl #[.slice Ao65 t535.length co65, .int .i64 1] rfl (by (try simp only [List.map_toArray, List.map_cons, List.map_nil]); first | done | rfl | (simp only [List.length_drop, List.length_take]; rfl)) ?_; (with_reducible refine (laws_heldInt64S.calls kj63 _ _ t535 1 t548 _ ?side1 ?side2 A79.out).mono ?_); (case side1 => repeat (first | exact (Kd.R_reads' HO_12.out).2.2 | (with_reducible refine Kd.C_alloc ?_ _) | (with_reducible refine Kd.C_drewN ?_ _) | (with_reducible refine Kd.C_drew ?_))); (case side2 => exact (Kd.R_reads' HO_12.out).2.1); rintro e w' ⟨rfl, ⟨nd, rfl⟩⟩; refine ⟨_, rfl, ?_⟩))
                  go_ret
                  exact ⟨by first | rfl | (simp [errW_none, errW_some] <;> rfl) | (simp [*, errW_none, errW_some] <;> rfl), by repeat (first | (with_reducible first | exact HB.out | apply below_alloc | apply pw_below_drewN | apply below_drew1) | exact HB.out)⟩
                 ·
                  rw [if_neg c81] at H
                  have c81b0 : (t548 == t534) = false := beq_eq_false_iff_ne.mpr c81
                  have c81b1 : (t548 != t534) = true := bne_iff_ne.mpr c81
                  obtain rfl := Option.some.inj H
                  go_wp2_with (first | ((with_reducible refine gate_callee (f := 16) rfl ?_); refine goesL_ (some 116) rfl rfl Try.func16 (by kernel_rfl) rfl #[.slice Ao65 t535.length co65, .int .i64 1] rfl (by (try simp only [List.map_toArray, List.map_cons, List.map_nil]); first | done | rfl | (simp only [List.length_drop, List.length_take]; rfl)) ?_; (with_reducible refine (laws_heldInt64S.calls kj63 _ _ t535 1 t548 _ ?side1 ?side2 A79.out).mono ?_); (case side1 => repeat (first | exact (Kd.R_reads' HO_12.out).2.2 | (with_reducible refine Kd.C_alloc ?_ _) | (with_reducible refine Kd.C_drewN ?_ _) | (with_reducible refine Kd.C_drew ?_))); (case side2 => exact (Kd.R_reads' HO_12.out).2.1); rintro e w' ⟨rfl, ⟨nd, rfl⟩⟩; refine ⟨_, rfl, ?_⟩))
                  go_ret
                  exact ⟨by first | rfl | (simp [errW_none, errW_some] <;> rfl) | (simp [*, errW_none, errW_some] <;> rfl), by repeat (first | (with_reducible first | exact HB.out | apply below_alloc | apply pw_below_drewN | apply below_drew1) | exact HB.out)⟩
            ·
             rw [if_neg c60] at H
             have c60b0 : (t536 == t534) = false := beq_eq_false_iff_ne.mpr c60
             have c60b1 : (t536 != t534) = true := bne_iff_ne.mpr c60
             obtain rfl := Option.some.inj H
             obtain ⟨Ao82, co82, eo82⟩ := Kd.R_slice HO_12.out
             subst eo82
             go_wp2_with (first | ((with_reducible refine gate_callee (f := 15) rfl ?_); refine goesL_ (some 87) rfl rfl Try.func15 (by kernel_rfl) rfl #[.slice Ao82 t516.length co82, .int .i64 1] rfl (by (try simp only [List.map_toArray, List.map_cons, List.map_nil]); first | done | rfl | (simp only [List.length_drop, List.length_take]; rfl)) ?_; (with_reducible refine (laws_markInt64S.calls kj38 (fun k_ => some k_ = (.slice Ao82 t516.length co82 : Value).ownBlock) (.slice Ao82 t516.length co82) t516 1 t534 t535 w _ ?side1 ?side2 A55.out).mono ?_); (case side1 => repeat (first | (with_reducible first | exact HB.out | apply below_alloc | apply pw_below_drewN | apply below_drew1) | exact HB.out)); (case side2 => exact Kd.R_tight rfl HO_12.out); rintro e w83 ⟨rfl, hy0, hb, hkp⟩; refine ⟨_, rfl, ?_⟩; have n0_ := am (Kd.R_mono (ok' := fun k_ => some k_ ≠ (.slice Ao82 t516.length co82 : Value).ownBlock) (Kd.R_keptB (HO_8.out) hkp (fun k_ hk_ hs_ => (hk_) hs_)) (fun k_ hk_ => hk_.1)); have n1_ := am (Kd.R_reok rfl hy0 (fun k_ e_ => HO_12.out.1 k_ e_)); have n2_ := am (hb); clear HO_8; clear HO_12; clear HB; have HO_8 := n0_; have HO_12 := n1_; have HB := n2_; clear n0_ n1_ n2_; (try clear hb); (try clear hkp); (try clear hy0)) | ((with_reducible refine gate_callee (f := 16) rfl ?_); refine goesL_ (some 90) rfl rfl Try.func16 (by kernel_rfl) rfl #[.slice Ao82 t535.length co82, .int .i64 1] rfl (by (try simp only [List.map_toArray, List.map_cons, List.map_nil]); first | done | (rw [show t535.length = t516.length from (Kd.R_reads' HO_12.out).1.symm] <;> rfl) | rfl | (simp only [List.length_drop, List.length_take]; rfl)) ?_; (with_reducible refine (laws_heldInt64S.calls kj38 _ _ t535 1 t536 _ ?side1 ?side2 A56.out).mono ?_); (case side1 => repeat (first | exact (Kd.R_reads' HO_12.out).2.2 | (with_reducible refine Kd.C_alloc ?_ _) | (with_reducible refine Kd.C_drewN ?_ _) | (with_reducible refine Kd.C_drew ?_))); (case side2 => rw [show t535.length = t516.length from (Kd.R_reads' HO_12.out).1.symm]; exact (Kd.R_reads' HO_12.out).2.1); rintro e w' ⟨rfl, ⟨nd, rfl⟩⟩; refine ⟨_, rfl, ?_⟩))
             go_ret
             exact ⟨by first | rfl | (simp [errW_none, errW_some] <;> rfl) | (simp [*, errW_none, errW_some] <;> rfl), by repeat (first | (with_reducible first | exact HB.out | apply below_alloc | apply pw_below_drewN | apply below_drew1) | exact HB.out)⟩
       ·
        replace c36 := Bool.eq_false_iff.mpr c36
        subst c36
        have H1 : (some false) = some r := by rw [if_neg (show ¬ (false = true) by decide)] at H; exact H
        clear H
        have H := H1
        clear H1
        obtain rfl := Option.some.inj H
        go_wp2_with (first | ((with_reducible refine gate_callee (f := 21) rfl ?_); refine goesL_ (some 58) rfl rfl Try.func21 (by kernel_rfl) rfl #[.slice A1 l1.length c1] rfl (by (try simp only [List.map_toArray, List.map_cons, List.map_nil]); first | done | rfl | (simp only [List.length_drop, List.length_take]; rfl)) ?_; (with_reducible refine (laws_toLineS.calls kj12 _ _ l1 t521 _ ?side1 ?side2 A31.out).mono ?_); (case side1 => repeat (first | exact (Kd.C_below HR1.out HB.out) | (with_reducible refine Kd.C_alloc ?_ _) | (with_reducible refine Kd.C_drewN ?_ _) | (with_reducible refine Kd.C_drew ?_))); (case side2 => exact HC1.out); rintro e w84 ⟨v522, rfl, ho0, hb⟩; refine ⟨_, rfl, ?_⟩; have n0_ := am (Kd.R_below (rst HO_8.out) hb); have n1_ := am (Kd.R_elder' (rst HO_10.out) (Kd.R_base ho0) hb); have n2_ := am (Kd.R_below (rst HO_11.out) hb); have n3_ := am (Kd.R_below (rst HO_12.out) hb); have n4_ := am (Kd.R_lower (Kd.R_new' ho0 (Kd.R_lt (rst HO_10.out))) (below_size (bst HB))); have n5_ := am (below_step (bst HB) hb); clear HO_8; clear HO_10; clear HO_11; clear HO_12; clear HB; have HO_8 := n0_; have HO_10 := n1_; have HO_11 := n2_; have HO_12 := n3_; have HO523 := n4_; have HB := n5_; clear n0_ n1_ n2_ n3_ n4_ n5_; (try clear hb); (try clear hb2); (try clear hk); (try clear hi); (try clear ho0); obtain ⟨Ao85, co85, eo85⟩ := Kd.R_slice HO523.out; subst eo85) | ((with_reducible refine gate_callee (f := 23) rfl ?_); refine goesL_ (some 59) rfl rfl Try.func23 (by kernel_rfl) rfl #[.slice Ao21 t510.length co21, .slice Ao85 t521.length co85] rfl (by (try simp only [List.map_toArray, List.map_cons, List.map_nil]); first | done | rfl | (simp only [List.length_drop, List.length_take]; rfl)) ?_; (with_reducible refine (laws_eqLineS.calls kj12 _ _ t510 _ _ t521 true _ ?side1 ?side2 ?side3 ?side4 A32.out).mono ?_); (case side1 => repeat (first | exact (Kd.R_reads' HO_10.out).2.2 | (with_reducible refine Kd.C_alloc ?_ _) | (with_reducible refine Kd.C_drewN ?_ _) | (with_reducible refine Kd.C_drew ?_))); (case side2 => exact (Kd.R_reads' HO_10.out).2.1); (case side3 => repeat (first | exact (Kd.R_reads' HO523.out).2.2 | (with_reducible refine Kd.C_alloc ?_ _) | (with_reducible refine Kd.C_drewN ?_ _) | (with_reducible refine Kd.C_drew ?_))); (case side4 => exact (Kd.R_reads' HO523.out).2.1); rintro e w86 ⟨rfl, hb⟩; refine ⟨_, rfl, ?_⟩; have n0_ := am (Kd.R_below (rst HO_8.out) hb); have n1_ := am (Kd.R_below (rst HO_10.out) hb); have n2_ := am (Kd.R_below (rst HO_11.out) hb); have n3_ := am (Kd.R_below (rst HO_12.out) hb); have n4_ := am (Kd.R_below (rst HO523.out) hb); have n5_ := am (below_step (bst HB) hb); clear HO_8; clear HO_10; clear HO_11; clear HO_12; clear HO523; clear HB; have HO_8 := n0_; have HO_10 := n1_; have HO_11 := n2_; have HO_12 := n3_; have HO523 := n4_; have HB := n5_; clear n0_ n1_ n2_ n3_ n4_ n5_; (try clear hb); (try clear hb2); (try clear hk); (try clear hi)) | ((with_reducible refine gate_callee (f := 12) rfl ?_); refine goesL_ (some 63) rfl rfl Try.func12 (by kernel_rfl) rfl #[.slice A2 l2.length c2] rfl (by (try simp only [List.map_toArray, List.map_cons, List.map_nil]); first | done | rfl | (simp only [List.length_drop, List.length_take]; rfl)) ?_; (with_reducible refine (laws_toInt64S.calls kj12 _ _ l2 t525 _ ?side1 ?side2 A34.out).mono ?_); (case side1 => repeat (first | exact (Kd.C_below HR2.out HB.out) | (with_reducible refine Kd.C_alloc ?_ _) | (with_reducible refine Kd.C_drewN ?_ _) | (with_reducible refine Kd.C_drew ?_))); (case side2 => exact HC2.out); rintro e w87 ⟨v526, rfl, ho0, hb⟩; refine ⟨_, rfl, ?_⟩; have n0_ := am (Kd.R_elder' (rst HO_8.out) (Kd.R_base ho0) hb); have n1_ := am (Kd.R_below (rst HO_10.out) hb); have n2_ := am (Kd.R_elder' (rst HO_11.out) (Kd.R_base ho0) hb); have n3_ := am (Kd.R_elder' (rst HO_12.out) (Kd.R_base ho0) hb); have n4_ := am (Kd.R_below (rst HO523.out) hb); have n5_ := am (Kd.R_lower (Kd.R_new' (Kd.R_new' (Kd.R_new' ho0 (Kd.R_lt (rst HO_8.out))) (Kd.R_lt (rst HO_11.out))) (Kd.R_lt (rst HO_12.out))) (below_size (bst HB))); have n6_ := am (below_step (bst HB) hb); clear HO_8; clear HO_10; clear HO_11; clear HO_12; clear HO523; clear HB; have HO_8 := n0_; have HO_10 := n1_; have HO_11 := n2_; have HO_12 := n3_; have HO523 := n4_; have HO527 := n5_; have HB := n6_; clear n0_ n1_ n2_ n3_ n4_ n5_ n6_; (try clear hb); (try clear hb2); (try clear hk); (try clear hi); (try clear ho0); obtain ⟨Ao88, co88, eo88⟩ := Kd.R_slice HO527.out; subst eo88) | ((with_reducible refine gate_callee (f := 14) rfl ?_); refine goesL_ (some 64) rfl rfl Try.func14 (by kernel_rfl) rfl #[.slice Ao22 t513.length co22, .slice Ao88 t525.length co88] rfl (by (try simp only [List.map_toArray, List.map_cons, List.map_nil]); first | done | rfl | (simp only [List.length_drop, List.length_take]; rfl)) ?_; (with_reducible refine (laws_eqInt64S.calls kj12 _ _ t513 _ _ t525 false _ ?side1 ?side2 ?side3 ?side4 A35.out).mono ?_); (case side1 => repeat (first | exact (Kd.R_reads' HO_11.out).2.2 | (with_reducible refine Kd.C_alloc ?_ _) | (with_reducible refine Kd.C_drewN ?_ _) | (with_reducible refine Kd.C_drew ?_))); (case side2 => exact (Kd.R_reads' HO_11.out).2.1); (case side3 => repeat (first | exact (Kd.R_reads' HO527.out).2.2 | (with_reducible refine Kd.C_alloc ?_ _) | (with_reducible refine Kd.C_drewN ?_ _) | (with_reducible refine Kd.C_drew ?_))); (case side4 => exact (Kd.R_reads' HO527.out).2.1); rintro e w' ⟨rfl, ⟨nd, rfl⟩⟩; refine ⟨_, rfl, ?_⟩))
        go_ret
        exact ⟨by first | rfl | (simp [errW_none, errW_some] <;> rfl) | (simp [*, errW_none, errW_some] <;> rfl), by repeat (first | (with_reducible first | exact HB.out | apply below_alloc | apply pw_below_drewN | apply below_drew1) | exact HB.out)⟩
      ·
       replace c33 := Bool.eq_false_iff.mpr c33
       subst c33
       have H1 : (some false) = some r := by rw [if_neg (show ¬ (false = true) by decide)] at H; exact H
       clear H
       have H := H1
       clear H1
       obtain rfl := Option.some.inj H
       go_wp2_with (first | ((with_reducible refine gate_callee (f := 21) rfl ?_); refine goesL_ (some 58) rfl rfl Try.func21 (by kernel_rfl) rfl #[.slice A1 l1.length c1] rfl (by (try simp only [List.map_toArray, List.map_cons, List.map_nil]); first | done | rfl | (simp only [List.length_drop, List.length_take]; rfl)) ?_; (with_reducible refine (laws_toLineS.calls kj12 _ _ l1 t521 _ ?side1 ?side2 A31.out).mono ?_); (case side1 => repeat (first | exact (Kd.C_below HR1.out HB.out) | (with_reducible refine Kd.C_alloc ?_ _) | (with_reducible refine Kd.C_drewN ?_ _) | (with_reducible refine Kd.C_drew ?_))); (case side2 => exact HC1.out); rintro e w89 ⟨v522, rfl, ho0, hb⟩; refine ⟨_, rfl, ?_⟩; have n0_ := am (Kd.R_below (rst HO_8.out) hb); have n1_ := am (Kd.R_elder' (rst HO_10.out) (Kd.R_base ho0) hb); have n2_ := am (Kd.R_below (rst HO_11.out) hb); have n3_ := am (Kd.R_below (rst HO_12.out) hb); have n4_ := am (Kd.R_lower (Kd.R_new' ho0 (Kd.R_lt (rst HO_10.out))) (below_size (bst HB))); have n5_ := am (below_step (bst HB) hb); clear HO_8; clear HO_10; clear HO_11; clear HO_12; clear HB; have HO_8 := n0_; have HO_10 := n1_; have HO_11 := n2_; have HO_12 := n3_; have HO523 := n4_; have HB := n5_; clear n0_ n1_ n2_ n3_ n4_ n5_; (try clear hb); (try clear hb2); (try clear hk); (try clear hi); (try clear ho0); obtain ⟨Ao90, co90, eo90⟩ := Kd.R_slice HO523.out; subst eo90) | ((with_reducible refine gate_callee (f := 23) rfl ?_); refine goesL_ (some 59) rfl rfl Try.func23 (by kernel_rfl) rfl #[.slice Ao21 t510.length co21, .slice Ao90 t521.length co90] rfl (by (try simp only [List.map_toArray, List.map_cons, List.map_nil]); first | done | rfl | (simp only [List.length_drop, List.length_take]; rfl)) ?_; (with_reducible refine (laws_eqLineS.calls kj12 _ _ t510 _ _ t521 false _ ?side1 ?side2 ?side3 ?side4 A32.out).mono ?_); (case side1 => repeat (first | exact (Kd.R_reads' HO_10.out).2.2 | (with_reducible refine Kd.C_alloc ?_ _) | (with_reducible refine Kd.C_drewN ?_ _) | (with_reducible refine Kd.C_drew ?_))); (case side2 => exact (Kd.R_reads' HO_10.out).2.1); (case side3 => repeat (first | exact (Kd.R_reads' HO523.out).2.2 | (with_reducible refine Kd.C_alloc ?_ _) | (with_reducible refine Kd.C_drewN ?_ _) | (with_reducible refine Kd.C_drew ?_))); (case side4 => exact (Kd.R_reads' HO523.out).2.1); rintro e w91 ⟨rfl, hb⟩; refine ⟨_, rfl, ?_⟩; have n0_ := am (Kd.R_below (rst HO_8.out) hb); have n1_ := am (Kd.R_below (rst HO_10.out) hb); have n2_ := am (Kd.R_below (rst HO_11.out) hb); have n3_ := am (Kd.R_below (rst HO_12.out) hb); have n4_ := am (Kd.R_below (rst HO523.out) hb); have n5_ := am (below_step (bst HB) hb); clear HO_8; clear HO_10; clear HO_11; clear HO_12; clear HO523; clear HB; have HO_8 := n0_; have HO_10 := n1_; have HO_11 := n2_; have HO_12 := n3_; have HO523 := n4_; have HB := n5_; clear n0_ n1_ n2_ n3_ n4_ n5_; (try clear hb); (try clear hb2); (try clear hk); (try clear hi)))
       go_ret
       exact ⟨by first | rfl | (simp [errW_none, errW_some] <;> rfl) | (simp [*, errW_none, errW_some] <;> rfl), by repeat (first | (with_reducible first | exact HB.out | apply below_alloc | apply pw_below_drewN | apply below_drew1) | exact HB.out)⟩
end Go.Proofs.Ytfpcfaapoeeipaa.P
