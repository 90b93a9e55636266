/- Contracts of functions of the given program, written by a program of this session out of the translation: each says that a call of the function does what the Lean function of its name says. -/
import Derived.Test.YtfpcfaapoeeipaaVcy0
import Derived.Test.YtfpcfaapoeeipaaVcp0
import Derived.Test.YtfpcfaapoeeipaaVcp1
namespace Go.Proofs.Ytfpcfaapoeeipaa.P
open Go.RowKit Go.Proofs.YtfpcfaapoeeipaaW.PrintWords Go.Proofs.YtfpcfaapoeeipaaW.PrintLast Go.Proofs.YtfpcfaapoeeipaaW.PrintMore
attribute [local go_sem] max2_int min2_int max_two min_two
set_option linter.unusedVariables false
set_option linter.unusedSimpArgs false
def spec_l08Alone.l0 : Nat → Int → List (S75) → List Int → List Int → List Int → List Int → Int → Option (List Int × List Int)
 | 0, _, _, _, _, _, _, _ => none
 | k + 1, x0, x1, x8, x10, x11, x12, x13 => if x13 < (x1.length : Int) then (if 0 ≤ x13 then (if ((rd_T75 x1 x13).f0) = 0 then (if 0 ≤ ((rd_T75 x1 x13).f3) then (if ((rd_T75 x1 x13).f3) < (x10.length : Int) then (if 0 ≤ ((rd_T75 x1 x13).f4) then (if ((rd_T75 x1 x13).f4) < (x10.length : Int) then ((spec_l01Do.f ((rd_T75 x1 x13).f2) x0 (rd x10 ((rd_T75 x1 x13).f3)) (rd x10 ((rd_T75 x1 x13).f4))).bind fun t251 => (if 0 ≤ ((rd_T75 x1 x13).f1) then (if ((rd_T75 x1 x13).f1) < (x10.length : Int) then (if x11.length < 17592186044416 then (spec_l08Alone.l0 k x0 x1 x8 (x10.set (((rd_T75 x1 x13).f1) : Int).toNat t251) (x11 ++ [x13]) x12 (wrap64 (x13 + 1))) else (none)) else (none)) else (none))) else (none)) else (none)) else (none)) else (none)) else (if ((rd_T75 x1 x13).f0) = 1 then (if 0 ≤ ((rd_T75 x1 x13).f1) then (if ((rd_T75 x1 x13).f1) < (x10.length : Int) then (if x11.length < 17592186044416 then (spec_l08Alone.l0 k x0 x1 x8 (x10.set (((rd_T75 x1 x13).f1) : Int).toNat ((rd_T75 x1 x13).f4)) (x11 ++ [x13]) x12 (wrap64 (x13 + 1))) else (none)) else (none)) else (none)) else (if ((rd_T75 x1 x13).f0) = 2 then (if 0 ≤ ((rd_T75 x1 x13).f3) then (if ((rd_T75 x1 x13).f3) < (x10.length : Int) then (if 0 ≤ ((rd_T75 x1 x13).f4) then (if ((rd_T75 x1 x13).f4) < (x10.length : Int) then ((spec_l01Test.f ((rd_T75 x1 x13).f2) x0 (rd x10 ((rd_T75 x1 x13).f3)) (rd x10 ((rd_T75 x1 x13).f4))).bind fun t262 => (if t262 = true then (spec_l08Alone.l0 k x0 x1 x8 x10 x11 x12 (wrap64 (x13 + 1))) else (if x13 < (x8.length : Int) then (spec_l08Alone.l0 k x0 x1 x8 x10 x11 x12 (wrap64 ((rd x8 x13) + 1))) else (none)))) else (none)) else (none)) else (none)) else (none)) else (if ((rd_T75 x1 x13).f0) = 3 then (if x13 < (x8.length : Int) then (spec_l08Alone.l0 k x0 x1 x8 x10 x11 x12 (wrap64 ((rd x8 x13) + 1))) else (none)) else (if ((rd_T75 x1 x13).f0) = 5 then (if x13 < (x12.length : Int) then (spec_l08Alone.l0 k x0 x1 x8 x10 x11 (x12.set (x13 : Int).toNat 1) (wrap64 (x13 + 1))) else (none)) else (if ((rd_T75 x1 x13).f0) = 4 then (if x13 < (x8.length : Int) then (if 0 ≤ (rd x8 x13) then (if (rd x8 x13) < (x1.length : Int) then (if ((rd_T75 x1 (rd x8 x13)).f0) = 5 then (if (rd x8 x13) < (x12.length : Int) then (if (rd x12 (rd x8 x13)) < ((rd_T75 x1 (rd x8 x13)).f4) then (spec_l08Alone.l0 k x0 x1 x8 x10 x11 (x12.set ((rd x8 x13) : Int).toNat (wrap64 ((rd x12 (rd x8 x13)) + 1))) (wrap64 ((rd x8 x13) + 1))) else (spec_l08Alone.l0 k x0 x1 x8 x10 x11 x12 (wrap64 (x13 + 1)))) else (none)) else (spec_l08Alone.l0 k x0 x1 x8 x10 x11 x12 (wrap64 (x13 + 1)))) else (none)) else (none)) else (none)) else (if ((rd_T75 x1 x13).f0) = 6 then (if 0 ≤ ((rd_T75 x1 x13).f3) then (if ((rd_T75 x1 x13).f3) < (x10.length : Int) then (if 0 ≤ ((rd_T75 x1 x13).f4) then (if ((rd_T75 x1 x13).f4) < (x10.length : Int) then ((spec_l01Test.f ((rd_T75 x1 x13).f2) x0 (rd x10 ((rd_T75 x1 x13).f3)) (rd x10 ((rd_T75 x1 x13).f4))).bind fun t274 => (if t274 = true then (if x13 < (x8.length : Int) then (spec_l08Alone.l0 k x0 x1 x8 x10 x11 x12 (wrap64 ((rd x8 x13) + 1))) else (none)) else (spec_l08Alone.l0 k x0 x1 x8 x10 x11 x12 (wrap64 (x13 + 1))))) else (none)) else (none)) else (none)) else (none)) else (spec_l08Alone.l0 k x0 x1 x8 x10 x11 x12 (wrap64 (x13 + 1)))))))))) else (none)) else (some (x10, x11))
def spec_l08Alone.f (k : Nat) (a0 : Int) (l1 : List (S75)) (l2 : List Int) : Option (List Int × List Int) := (spec_l08Pairs.f k a0 l1).bind fun bt234 => ((spec_l00Own.f l2).bind fun t238 => (if 0 ≤ (l1.length : Int) then (if ((l1.length : Int) : Int).toNat ≤ 35184372088832 then (spec_l08Alone.l0 k a0 l1 bt234.1 t238 (([] : List Int)) (List.replicate ((l1.length : Int) : Int).toNat 0) 0) else (none)) else (none)))
def spec_l08Alone.T11 : Bool × List (List Nat × List Nat) := (true, [([], []), ([], []), ([1], [1]), ([], []), ([3], [3]), ([], []), ([], []), ([], []), ([7], [7]), ([6, 8], [6, 8]), ([9], [9]), ([], []), ([], []), ([12], [12]), ([11, 13], [11, 13]), ([14], [14]), ([4, 5, 10, 15], [4, 5, 10, 15]), ([0, 2, 0, 1, 2, 3, 4, 5, 6, 7, 8, 9, 10, 11, 12, 13, 14, 15, 16], [0, 2]), ([17, 16, 16, 0, 1, 2, 3, 4, 5, 6, 7, 8, 9, 10, 11, 12, 13, 14, 15, 16], [16, 17])])
def spec_l08Alone.B11 : List Nat := [0, 0, 2, 0, 8, 0, 0, 0, 128, 448, 960, 0, 0, 4096, 14336, 30720, 65528, 131071, 262143]
theorem spec_l08Alone.tab11 : rtab .any (opsOf Try.f61 11) = spec_l08Alone.T11 := by kernel_rfl
theorem spec_l08Alone.bits11 : waitsOk spec_l08Alone.T11.2 spec_l08Alone.B11 = true := by kernel_rfl
def spec_l08Alone.T17 : Bool × List (List Nat × List Nat) := (true, [([], []), ([0], [0]), ([], []), ([], []), ([], []), ([4], [4]), ([3, 5], [3, 5]), ([6], [6]), ([], []), ([], []), ([9], [9]), ([8, 10], [8, 10]), ([11], [11]), ([1, 2, 7, 12], [1, 2, 7, 12]), ([13], [13])])
def spec_l08Alone.B17 : List Nat := [0, 1, 0, 0, 0, 16, 56, 120, 0, 0, 512, 1792, 3840, 8191, 16383]
theorem spec_l08Alone.tab17 : rtab .any (opsOf Try.f61 17) = spec_l08Alone.T17 := by kernel_rfl
theorem spec_l08Alone.bits17 : waitsOk spec_l08Alone.T17.2 spec_l08Alone.B17 = true := by kernel_rfl
def spec_l08Alone.T25 : Bool × List (List Nat × List Nat) := (true, [([], []), ([], []), ([0, 1], [0, 1]), ([2], [2]), ([3], [3]), ([4], [4]), ([5], [5]), ([6], [6]), ([6], [6]), ([7, 8, 6], [6, 7, 8]), ([9, 6], [6, 9]), ([6], [6]), ([6], [6]), ([11, 12, 6], [6, 11, 12]), ([13, 6], [6, 13]), ([14, 6], [6, 14]), ([10, 15, 6], [6, 10, 15]), ([6, 16], [6, 16])])
def spec_l08Alone.B25 : List Nat := [0, 0, 3, 7, 15, 31, 63, 127, 127, 511, 1023, 127, 127, 6271, 14463, 30847, 65535, 131071]
theorem spec_l08Alone.tab25 : rtab .any (opsOf Try.f61 25) = spec_l08Alone.T25 := by kernel_rfl
theorem spec_l08Alone.bits25 : waitsOk spec_l08Alone.T25.2 spec_l08Alone.B25 = true := by kernel_rfl
def spec_l08Alone.T29 : Bool × List (List Nat × List Nat) := (true, [([], []), ([0], [0]), ([], []), ([], []), ([], []), ([4], [4]), ([3, 5], [3, 5]), ([6], [6]), ([], []), ([], []), ([9], [9]), ([8, 10], [8, 10]), ([11], [11]), ([1, 2, 7, 12], [1, 2, 7, 12])])
def spec_l08Alone.B29 : List Nat := [0, 1, 0, 0, 0, 16, 56, 120, 0, 0, 512, 1792, 3840, 8191]
theorem spec_l08Alone.tab29 : rtab .any (opsOf Try.f61 29) = spec_l08Alone.T29 := by kernel_rfl
theorem spec_l08Alone.bits29 : waitsOk spec_l08Alone.T29.2 spec_l08Alone.B29 = true := by kernel_rfl
set_option maxHeartbeats 80000000 in
set_option maxRecDepth 100000 in
theorem spec_l08Alone.calls (k : Nat) (a0 : Int) (A1 : Option Addr) (c1 : Nat) (l1 : List (S75)) (A2 : Option Addr) (c2 : Nat) (l2 : List Int) (r1 : List Int) (r2 : List Int) (w : World) (hr1 : Kd.C k75 w A1 l1.length l1) (hc1 : l1.length ≤ c1) (hr2 : Kd.C (Kd.int .i64) w A2 l2.length l2) (hc2 : l2.length ≤ c2) (h : spec_l08Alone.f k a0 l1 l2 = some (r1, r2)) :
  Calls Try.prog 61 #[.int .i64 a0, .slice A1 l1.length c1, .slice A2 l2.length c2] w fun e w' => ∃ v0_ v1_ : Value, e = .returned (.tuple #[v0_, v1_]) ∧ Kd.R (Kd.int .i64) 2 w' w.heap.size (fun k_ => some k_ ≠ (v1_ : Value).ownBlock) v0_ r1 ∧ Kd.R (Kd.int .i64) 2 w' w.heap.size (fun k_ => some k_ ≠ (v0_ : Value).ownBlock) v1_ r2 ∧ Below w.heap.size w w' := by
 have hu75 := Try.underlying75
 have HR1 := am hr1
 have HC1 := am hc1
 clear hr1 hc1
 have HR2 := am hr2
 have HC2 := am hc2
 clear hr2 hc2
 have HB := am (Below.refl w.heap.size w)
 have H : ((spec_l08Pairs.f k a0 l1).bind fun bt234 => ((spec_l00Own.f l2).bind fun t238 => (if 0 ≤ (l1.length : Int) then (if ((l1.length : Int) : Int).toNat ≤ 35184372088832 then (spec_l08Alone.l0 k a0 l1 bt234.1 t238 (([] : List Int)) (List.replicate ((l1.length : Int) : Int).toNat 0) 0) else (none)) else (none)))) = some (r1, r2) := h
 clear h
 replace H := Option.bind_eq_some_iff.mp H
 obtain ⟨⟨t234, t235⟩, A40, H⟩ := H
 replace H : ((spec_l00Own.f l2).bind fun t238 => (if 0 ≤ (l1.length : Int) then (if ((l1.length : Int) : Int).toNat ≤ 35184372088832 then (spec_l08Alone.l0 k a0 l1 t234 t238 (([] : List Int)) (List.replicate ((l1.length : Int) : Int).toNat 0) 0) else (none)) else (none))) = some (r1, r2) := H
 have A4 := am A40
 clear A40
 replace H := Option.bind_eq_some_iff.mp H
 obtain ⟨t238, A50, H⟩ := H
 replace H : (if 0 ≤ (l1.length : Int) then (if ((l1.length : Int) : Int).toNat ≤ 35184372088832 then (spec_l08Alone.l0 k a0 l1 t234 t238 (([] : List Int)) (List.replicate ((l1.length : Int) : Int).toNat 0) 0) else (none)) else (none)) = some (r1, r2) := H
 have A5 := am A50
 clear A50
 obtain ⟨y241, hy241⟩ : ∃ y_ : List Int, y_ = (([] : List Int)) := ⟨_, rfl⟩
 replace H : (if 0 ≤ (l1.length : Int) then (if ((l1.length : Int) : Int).toNat ≤ 35184372088832 then (spec_l08Alone.l0 k a0 l1 t234 t238 y241 (List.replicate ((l1.length : Int) : Int).toNat 0) 0) else (none)) else (none)) = some (r1, r2) := by first | (rw [hy241]; with_reducible exact H) | (have H2_ := bsm H; rw [hy241]; with_reducible exact H2_) | (have H2_ := bsm H; exact H2_) | (rw [hy241]; exact H) | exact H
 have Ny241 := am hy241; clear hy241
 replace H := ifp H; obtain ⟨c6, H⟩ := H
 have c6b0 := eq_true c6
 have c6b1 : decide (0 ≤ (l1.length : Int)) = true := decide_eq_true c6
 clear c6
 replace H := ifp H; obtain ⟨c7, H⟩ := H
 have c7b0 := eq_true c7
 have c7b1 : decide (((l1.length : Int) : Int).toNat ≤ 35184372088832) = true := decide_eq_true c7
 clear c7
 obtain ⟨y244, hy244⟩ : ∃ y_ : List Int, y_ = (List.replicate ((l1.length : Int) : Int).toNat 0) := ⟨_, rfl⟩
 replace H : (spec_l08Alone.l0 k a0 l1 t234 t238 y241 y244 0) = some (r1, r2) := by first | (rw [hy244]; with_reducible exact H) | (have H2_ := bsm H; rw [hy244]; with_reducible exact H2_) | (have H2_ := bsm H; exact H2_) | (rw [hy244]; exact H) | exact H
 have Ny244 := am hy244; clear hy244; have H' := am H; clear H
 go_enter Try.func61, Try.ntmps61
 go_wp2_with (first | ((with_reducible refine gate_callee (f := 101) rfl ?_); refine goesL_ (some 19) rfl rfl Try.func101 (by kernel_rfl) rfl #[.int .i64 a0, .slice A1 l1.length c1] rfl (by (try simp only [List.map_toArray, List.map_cons, List.map_nil]); first | done | rfl | (simp only [List.length_drop, List.length_take]; rfl)) ?_; (with_reducible refine (spec_l08Pairs.calls k a0 _ _ l1 t234 t235 _ ?side1 ?side2 A4.out).mono ?_); (case side1 => repeat (first | exact HR1.out | (with_reducible refine Kd.C_alloc ?_ _) | (with_reducible refine Kd.C_drewN ?_ _) | (with_reducible refine Kd.C_drew ?_))); (case side2 => exact HC1.out); rintro e w8 ⟨v236, rfl, ho0, hb⟩; refine ⟨_, rfl, ?_⟩; have n0_ := am (Kd.R_lower ho0 (below_size (bst HB))); have n1_ := am (below_step (bst HB) hb); clear HB; have HO237 := n0_; have HB := n1_; clear n0_ n1_; (try clear hb); (try clear hb2); (try clear hk); (try clear hi); (try clear ho0)) | ((with_reducible refine gate_callee (f := 55) rfl ?_); refine goesL_ (some 23) rfl rfl Try.func55 (by kernel_rfl) rfl #[.slice A2 l2.length c2] rfl (by (try simp only [List.map_toArray, List.map_cons, List.map_nil]); first | done | rfl | (simp only [List.length_drop, List.length_take]; rfl)) ?_; (with_reducible refine (spec_l00Own.calls _ _ l2 t238 _ ?side1 ?side2 A5.out).mono ?_); (case side1 => repeat (first | exact (Kd.C_below HR2.out HB.out) | (with_reducible refine Kd.C_alloc ?_ _) | (with_reducible refine Kd.C_drewN ?_ _) | (with_reducible refine Kd.C_drew ?_))); (case side2 => exact HC2.out); rintro e w9 ⟨v239, rfl, ho0, hb⟩; refine ⟨_, rfl, ?_⟩; have n0_ := am (Kd.R_elder' (rst HO237.out) (Kd.R_base ho0) hb); have n1_ := am (Kd.R_lower (Kd.R_new' ho0 (Kd.R_lt (rst HO237.out))) (below_size (bst HB))); have n2_ := am (below_step (bst HB) hb); clear HO237; clear HB; have HO237 := n0_; have HO240 := n1_; have HB := n2_; clear n0_ n1_ n2_; (try clear hb); (try clear hb2); (try clear hk); (try clear hi); (try clear ho0)) | ((with_reducible refine gate_dst (N := 24) rfl ?_); refine Kd.R_lit (Kd.int .i64) _ 2 ?hg (N := 24) ?hd (xs := ([] : List Int)) (inner := []) (ok := fun _ => True) (okp := fun _ => True) ?hr ?hp (fun _ hk => hk) trivial (Below.refl _ _) (Nat.le_refl _) (by simp) ?_; (case hd => rfl); (case hg => rfl); (case hr => first | (go_simp; done) | (go_simp; rfl)); (case hp => exact (Reps.none _ _)); intro v242 w10 ho11 hb hg_ hnew_; clear hg_ hnew_; (first | rw [← Ny241.out] at ho11 | (simp only [Int.reduceToNat] at ho11; rw [← Ny241.out] at ho11)); have n0_ := am (Kd.R_elder' (rst HO237.out) (Kd.R_base ho11) hb); have n1_ := am (Kd.R_elder' (rst HO240.out) (Kd.R_base ho11) hb); have n2_ := am (Kd.R_lower (Kd.R_new' (Kd.R_new' ho11 (Kd.R_lt (rst HO237.out))) (Kd.R_lt (rst HO240.out))) (below_size (bst HB))); have n3_ := am (below_step (bst HB) hb); clear HO237; clear HO240; clear HB; have HO237 := n0_; have HO240 := n1_; have HO243 := n2_; have HB := n3_; clear n0_ n1_ n2_ n3_; clear hb ho11) | ((with_reducible refine gate_dst (N := 27) rfl ?_); refine Kd.R_make (Kd.int .i64) _ 2 rfl (N := 27) rfl 22 _ _ rfl (l1.length : Int) rfl rfl Try.underlying22 (.int .i64 0) 8 info2 rfl (by decide) (by omega) 0 (ok := fun _ => True) (okp := fun _ => True) rfl (fun _ hk => hk) trivial (od (by assumption)) (Nat.le_trans (Nat.mul_le_mul_right _ (od (by assumption) : (l1.length : Int).toNat ≤ 35184372088832)) (by omega)) (Below.refl _ _) (Nat.le_refl _) ?_; intro v245 w12 ho13 hb hg_ hnew_; clear hg_ hnew_; (first | rw [← Ny244.out] at ho13 | (simp only [Int.reduceToNat] at ho13; rw [← Ny244.out] at ho13)); have n0_ := am (Kd.R_elder' (rst HO237.out) (Kd.R_base ho13) hb); have n1_ := am (Kd.R_elder' (rst HO240.out) (Kd.R_base ho13) hb); have n2_ := am (Kd.R_elder' (rst HO243.out) (Kd.R_base ho13) hb); have n3_ := am (Kd.R_lower (Kd.R_new' (Kd.R_new' (Kd.R_new' ho13 (Kd.R_lt (rst HO237.out))) (Kd.R_lt (rst HO240.out))) (Kd.R_lt (rst HO243.out))) (below_size (bst HB))); have n4_ := am (below_step (bst HB) hb); clear HO237; clear HO240; clear HO243; clear HB; have HO237 := n0_; have HO240 := n1_; have HO243 := n2_; have HO246 := n3_; have HB := n4_; clear n0_ n1_ n2_ n3_ n4_; clear hb ho13))
 go_loopg [11, 13] k (fun kq v11 v13 w' => ∃ (x10_1 : List Int) (x11_1 : List Int) (x12_1 : List Int) (x13_1 : Int), v13 = .int .i64 x13_1 ∧ Aside0 (spec_l08Alone.l0 kq a0 l1 t234 x10_1 x11_1 x12_1 x13_1 = some (r1, r2)) ∧ Aside0 (kq ≤ k) ∧ Aside0 (Kd.R (Kd.int .i64) 2 w' w.heap.size (fun k_ => some k_ ≠ (v239 : Value).ownBlock ∧ some k_ ≠ (v11 : Value).ownBlock ∧ some k_ ≠ (v245 : Value).ownBlock) v236 t234) ∧ Aside0 (Kd.R (Kd.int .i64) 2 w' w.heap.size (fun k_ => some k_ ≠ (v236 : Value).ownBlock ∧ some k_ ≠ (v11 : Value).ownBlock ∧ some k_ ≠ (v245 : Value).ownBlock) v239 x10_1) ∧ Aside0 (Kd.R (Kd.int .i64) 2 w' w.heap.size (fun k_ => some k_ ≠ (v236 : Value).ownBlock ∧ some k_ ≠ (v239 : Value).ownBlock ∧ some k_ ≠ (v245 : Value).ownBlock) v11 x11_1) ∧ Aside0 (Kd.R (Kd.int .i64) 2 w' w.heap.size (fun k_ => some k_ ≠ (v236 : Value).ownBlock ∧ some k_ ≠ (v239 : Value).ownBlock ∧ some k_ ≠ (v11 : Value).ownBlock) v245 x12_1) ∧ Aside0 (Below w.heap.size w w'))
 case atStart => exact ⟨(t238), (y241), (y244), (0), (by first | rfl | (simp; done) | (simp [*]; done)), H', ⟨Nat.le_refl _⟩, ⟨by first | exact rst (Kd.R_mono HO237.out (fun _ hk => ⟨hk.1.1.2, ⟨hk.1.2, hk.2⟩⟩)) | exact Kd.R_mono (rst (Kd.R_mono HO237.out (fun _ hk => ⟨hk.1.1.2, ⟨hk.1.2, hk.2⟩⟩))) (by intro k_ hk_; simpa only [ob_eq] using hk_)⟩, ⟨by first | exact rst (Kd.R_mono HO240.out (fun _ hk => ⟨hk.1.1.2, ⟨hk.1.2, hk.2⟩⟩)) | exact Kd.R_mono (rst (Kd.R_mono HO240.out (fun _ hk => ⟨hk.1.1.2, ⟨hk.1.2, hk.2⟩⟩))) (by intro k_ hk_; simpa only [ob_eq] using hk_)⟩, ⟨by first | exact rst (Kd.R_mono HO243.out (fun _ hk => ⟨hk.1.1.2, ⟨hk.1.2, hk.2⟩⟩)) | exact Kd.R_mono (rst (Kd.R_mono HO243.out (fun _ hk => ⟨hk.1.1.2, ⟨hk.1.2, hk.2⟩⟩))) (by intro k_ hk_; simpa only [ob_eq] using hk_)⟩, ⟨by first | exact rst (Kd.R_mono HO246.out (fun _ hk => ⟨hk.1.1.2, ⟨hk.1.2, hk.2⟩⟩)) | exact Kd.R_mono (rst (Kd.R_mono HO246.out (fun _ hk => ⟨hk.1.1.2, ⟨hk.1.2, hk.2⟩⟩))) (by intro k_ hk_; simpa only [ob_eq] using hk_)⟩, ⟨bst HB⟩⟩
 case round =>
  clear H'; (try clear c1); (try clear c2); (try clear p2); (try clear c5); (try clear c6); (try clear c6b0); (try clear c6b1); (try clear c7); (try clear c7b0); (try clear c7b1); (try clear c10)
  obtain ⟨x10_1, x11_1, x12_1, x13_1, rfl, HA, HK1, HO_8, HO_10, HO_11, HO_12, HB⟩ := hrel
  cases gk with
  | zero => exact absurd HA.out (by simp [spec_l08Alone.l0])
  | succ k1 =>
   have H := HA.out
   clear HA
   simp only [spec_l08Alone.l0] at H
   by_cases c14 : x13_1 < (l1.length : Int)
   ·
    rw [if_pos c14] at H
    have c14b0 : decide (x13_1 < (l1.length : Int)) = true := decide_eq_true c14
    clear c14
    replace H := ifp H; obtain ⟨c15, H⟩ := H
    have c15b0 : decide (0 ≤ x13_1) = true := decide_eq_true c15
    clear c15
    by_cases c16 : ((rd_T75 l1 x13_1).f0) = 0
    ·
     rw [if_pos c16] at H
     have c16b0 : (((rd_T75 l1 x13_1).f0) == 0) = true := beq_iff_eq.mpr c16
     have c16b1 : (((rd_T75 l1 x13_1).f0) != 0) = false := bne_eq_false_iff_eq.mpr c16
     clear c16
     replace H := ifp H; obtain ⟨c17, H⟩ := H
     have c17b0 : decide (0 ≤ ((rd_T75 l1 x13_1).f3)) = true := decide_eq_true c17
     clear c17
     replace H := ifp H; obtain ⟨c18, H⟩ := H
     have c18b0 : decide (((rd_T75 l1 x13_1).f3) < (x10_1.length : Int)) = true := decide_eq_true c18
     clear c18
     replace H := ifp H; obtain ⟨c19, H⟩ := H
     have c19b0 : decide (0 ≤ ((rd_T75 l1 x13_1).f4)) = true := decide_eq_true c19
     clear c19
     replace H := ifp H; obtain ⟨c20, H⟩ := H
     have c20b0 : decide (((rd_T75 l1 x13_1).f4) < (x10_1.length : Int)) = true := decide_eq_true c20
     clear c20
     replace H := Option.bind_eq_some_iff.mp H
     obtain ⟨t251, A210, H⟩ := H
     replace H : (if 0 ≤ ((rd_T75 l1 x13_1).f1) then (if ((rd_T75 l1 x13_1).f1) < (x10_1.length : Int) then (if x11_1.length < 17592186044416 then (spec_l08Alone.l0 k1 a0 l1 t234 (x10_1.set (((rd_T75 l1 x13_1).f1) : Int).toNat t251) (x11_1 ++ [x13_1]) x12_1 (wrap64 (x13_1 + 1))) else (none)) else (none)) else (none)) = some (r1, r2) := H
     have A21 := am A210
     clear A210
     replace H := ifp H; obtain ⟨c22, H⟩ := H
     have c22b0 : decide (0 ≤ ((rd_T75 l1 x13_1).f1)) = true := decide_eq_true c22
     clear c22
     replace H := ifp H; obtain ⟨c23, H⟩ := H
     have c23b0 : decide (((rd_T75 l1 x13_1).f1) < (x10_1.length : Int)) = true := decide_eq_true c23
     clear c23
     obtain ⟨y252, hy252⟩ : ∃ y_ : List Int, y_ = (x10_1.set (((rd_T75 l1 x13_1).f1) : Int).toNat t251) := ⟨_, rfl⟩
     replace H : (if x11_1.length < 17592186044416 then (spec_l08Alone.l0 k1 a0 l1 t234 y252 (x11_1 ++ [x13_1]) x12_1 (wrap64 (x13_1 + 1))) else (none)) = some (r1, r2) := by first | (rw [hy252]; with_reducible exact H) | (have H2_ := bsm H; rw [hy252]; with_reducible exact H2_) | (have H2_ := bsm H; exact H2_) | (rw [hy252]; exact H) | exact H
     have Ny252 := am hy252; clear hy252
     replace H := ifp H; obtain ⟨c25, H⟩ := H
     have LMc25 := am c25
     clear c25
     obtain ⟨y253, hy253⟩ : ∃ y_ : List Int, y_ = (x11_1 ++ [x13_1]) := ⟨_, rfl⟩
     replace H : (spec_l08Alone.l0 k1 a0 l1 t234 y252 y253 x12_1 (wrap64 (x13_1 + 1))) = some (r1, r2) := by first | (rw [hy253]; with_reducible exact H) | (have H2_ := bsm H; rw [hy253]; with_reducible exact H2_) | (have H2_ := bsm H; exact H2_) | (rw [hy253]; exact H) | exact H
     have Ny253 := am hy253; clear hy253; have H' := am H; clear H
     have p247 : 0 ≤ (x13_1 : Int) := od (by assumption)
     have q247 : x13_1 < (l1.length : Int) := od (by assumption)
     obtain ⟨ad247, e247, hx247_0, hx247_1, hx247_2, hx247_3, hx247_4⟩ := at_T75 HR1.out x13_1 p247 q247
     cases e247
     replace hx247_0 := bc HB hx247_0
     replace hx247_1 := bc HB hx247_1
     replace hx247_2 := bc HB hx247_2
     replace hx247_3 := bc HB hx247_3
     replace hx247_4 := bc HB hx247_4
     replace p247 := eq_true p247; replace q247 := eq_true q247
     try go_wp2_with (first | ((with_reducible refine gate_dst (N := 14) rfl ?_); refine box_event ?hg (N := 14) ?hd (cs := #[.int .i64 0, .int .i64 0, .int .i64 0, .int .i64 0, .int .i64 0]) (t := 75) ?hr ?_; (case hd => rfl); (case hg => rfl); (case hr => first | (go_simp; done) | (go_simp; rfl)); intro gb248 hg w26 hbox hb; have n0_ := am (Kd.R_below (rst HO_8.out) hb); have n1_ := am (Kd.R_below (rst HO_10.out) hb); have n2_ := am (Kd.R_below (rst HO_11.out) hb); have n3_ := am (Kd.R_below (rst HO_12.out) hb); have n4_ := am (below_step (bst HB) hb); have n5_ := am (hbox); have n6_ := am ((by rw [hg]; exact (below_size (bst HB)) : w.heap.size ≤ gb248)); have n7_ := am ((by rw [hg]; exact (below_size (bst HB)) : w.heap.size ≤ gb248)); clear HO_8; clear HO_10; clear HO_11; clear HO_12; clear HB; have HO_8 := n0_; have HO_10 := n1_; have HO_11 := n2_; have HO_12 := n3_; have HB := n4_; have BK248 := n5_; have GW248 := n6_; have GE248 := n7_; clear n0_ n1_ n2_ n3_ n4_ n5_ n6_ n7_; clear hb hbox hg; obtain ⟨hcz27_0, hcz27_1, hcz27_2, hcz27_3, hcz27_4, hfz27_0, hfz27_1, hfz27_2, hfz27_3, hfz27_4⟩ := bx5 BK248.out))
     generalize hwb_ : (((((w26.setCell ⟨gb248, 0, none⟩ (.int .i64 ((rd_T75 l1 x13_1).f0))).setCell ⟨gb248, 1, none⟩ (.int .i64 ((rd_T75 l1 x13_1).f1))).setCell ⟨gb248, 2, none⟩ (.int .i64 ((rd_T75 l1 x13_1).f2))).setCell ⟨gb248, 3, none⟩ (.int .i64 ((rd_T75 l1 x13_1).f3))).setCell ⟨gb248, 4, none⟩ (.int .i64 ((rd_T75 l1 x13_1).f4))) = w28
     have n0_ := am (R_b5 hwb_.symm HO_8.out BK248.out (by decide))
     have n1_ := am (R_b5 hwb_.symm HO_10.out BK248.out (by decide))
     have n2_ := am (R_b5 hwb_.symm HO_11.out BK248.out (by decide))
     have n3_ := am (R_b5 hwb_.symm HO_12.out BK248.out (by decide))
     have n4_ := am (blk_b5 hwb_.symm BK248.out)
     have n5_ := am (below_b5 hwb_.symm HB.out GE248.out)
     (try clear HO_8)
     (try clear HO_10)
     (try clear HO_11)
     (try clear HO_12)
     (try clear BK248)
     (try clear HB)
     clear hwb_
     have HO_8 := n0_
     have HO_10 := n1_
     have HO_11 := n2_
     have HO_12 := n3_
     have BK248 := n4_
     have HB := n5_
     clear n0_ n1_ n2_ n3_ n4_ n5_
     have n0_ := am (Kd.R_drew HO_8.out)
     have n1_ := am (Kd.R_drew HO_10.out)
     have n2_ := am (Kd.R_drew HO_11.out)
     have n3_ := am (Kd.R_drew HO_12.out)
     have n4_ := am (blk_drew BK248.out)
     have n5_ := am (below_drew1 HB.out)
     clear HO_8; clear HO_10; clear HO_11; clear HO_12; clear BK248; clear HB
     have HO_8 := n0_
     have HO_10 := n1_
     have HO_11 := n2_
     have HO_12 := n3_
     have BK248 := n4_
     have HB := n5_
     clear n0_ n1_ n2_ n3_ n4_ n5_
     obtain ⟨Ao30, co30, eo30⟩ := Kd.R_slice HO_10.out
     (first | subst eo30 | (injection eo30 with f1_ f2_ f3_; have f4_ := f1_.symm; have f5_ := f3_.symm; clear f1_ f2_ f3_; subst f4_; subst f5_))
     have p249 : 0 ≤ (((rd_T75 l1 x13_1).f3) : Int) := od (by assumption)
     have q249 : ((rd_T75 l1 x13_1).f3) < (x10_1.length : Int) := od (by assumption)
     obtain ⟨ad249, e249, hx249_0⟩ := Kd.at_int (Kd.R_reads' HO_10.out).2.2 ((rd_T75 l1 x13_1).f3) p249 q249
     cases e249
     replace p249 := eq_true p249; replace q249 := eq_true q249
     have p250 : 0 ≤ (((rd_T75 l1 x13_1).f4) : Int) := od (by assumption)
     have q250 : ((rd_T75 l1 x13_1).f4) < (x10_1.length : Int) := od (by assumption)
     obtain ⟨ad250, e250, hx250_0⟩ := Kd.at_int (Kd.R_reads' HO_10.out).2.2 ((rd_T75 l1 x13_1).f4) p250 q250
     obtain rfl : ad249 = ad250 := (by injection e250)
     replace p250 := eq_true p250; replace q250 := eq_true q250
     refine start_ (n := 19) (S := fun w' => w'.cell? ⟨gb248, 0, none⟩ = some (.int .i64 ((rd_T75 l1 x13_1).f0)) ∧ w'.cell? ⟨gb248, 1, none⟩ = some (.int .i64 ((rd_T75 l1 x13_1).f1)) ∧ w'.cell? ⟨gb248, 2, none⟩ = some (.int .i64 ((rd_T75 l1 x13_1).f2)) ∧ w'.cell? ⟨gb248, 3, none⟩ = some (.int .i64 ((rd_T75 l1 x13_1).f3)) ∧ w'.cell? ⟨gb248, 4, none⟩ = some (.int .i64 ((rd_T75 l1 x13_1).f4)) ∧ w'.cell? (ad249.add (((rd_T75 l1 x13_1).f3)).toNat) = some (.int .i64 (rd x10_1 ((rd_T75 l1 x13_1).f3))) ∧ w'.cell? (ad249.add (((rd_T75 l1 x13_1).f4)).toNat) = some (.int .i64 (rd x10_1 ((rd_T75 l1 x13_1).f4)))) (ds := [18]) #[false, false, false, false, false, false, false, false, false, false, false, false, false, false, false, false, false, false, false] (by kernel_rfl) rfl rfl ⟨(blk_cell BK248.out 0).trans rfl, (blk_cell BK248.out 1).trans rfl, (blk_cell BK248.out 2).trans rfl, (blk_cell BK248.out 3).trans rfl, (blk_cell BK248.out 4).trans rfl, hx249_0, hx250_0⟩ (fun hHeld => ?_); refine with_tabW spec_l08Alone.tab11 spec_l08Alone.bits11 (fun HT_ HW_ => ?_)
     generalize w28.drew = w29 at HO_8 HO_10 HO_11 HO_12 BK248 HB hx249_0 hx250_0 hHeld ⊢
     refine pure_ (i := 0) (N := some 42) (v := ?_) (a' := ?_) #[true, false, false, false, false, false, false, false, false, false, false, false, false, false, false, false, false, false, false] rfl rfl (any_of HT_.out (by kernel_rfl)) (fun _ _ _ h => h) (Or.inl ⟨by rfl, ?_⟩) ?_ ?_
     rotate_left
     ·
      intro w'
      go_simp
      with_reducible rfl
     rotate_left
     ·
      simp only [Act.put, List.setIfInBounds_toArray, List.set_cons_zero, List.set_cons_succ, i64_w, i32_w]
      rfl
     refine pure_ (i := 1) (N := some 43) (v := ?_) (a' := ?_) #[true, true, false, false, false, false, false, false, false, false, false, false, false, false, false, false, false, false, false] rfl rfl (any_of HT_.out (by kernel_rfl)) (fun _ _ _ h => h) (Or.inl ⟨by rfl, ?_⟩) ?_ ?_
     rotate_left
     ·
      intro w'
      go_simp
      with_reducible rfl
     rotate_left
     ·
      simp only [Act.put, List.setIfInBounds_toArray, List.set_cons_zero, List.set_cons_succ, i64_w, i32_w]
      rfl
     refine pure_ (i := 3) (N := some 45) (v := ?_) (a' := ?_) #[true, true, false, true, false, false, false, false, false, false, false, false, false, false, false, false, false, false, false] rfl rfl (any_of HT_.out (by kernel_rfl)) (fun _ _ _ h => h) (Or.inl ⟨by rfl, ?_⟩) ?_ ?_
     rotate_left
     ·
      intro w'
      go_simp
      with_reducible rfl
     rotate_left
     ·
      simp only [Act.put, List.setIfInBounds_toArray, List.set_cons_zero, List.set_cons_succ, i64_w, i32_w]
      rfl
     refine pure_ (i := 5) (N := some 47) (v := ?_) (a' := ?_) #[true, true, false, true, false, true, false, false, false, false, false, false, false, false, false, false, false, false, false] rfl rfl (any_of HT_.out (by kernel_rfl)) (fun _ _ _ h => h) (Or.inl ⟨by rfl, ?_⟩) ?_ ?_
     rotate_left
     ·
      intro w'
      go_simp
      with_reducible rfl
     rotate_left
     ·
      simp only [Act.put, List.setIfInBounds_toArray, List.set_cons_zero, List.set_cons_succ, i64_w, i32_w]
      rfl
     refine pure_ (i := 6) (N := some 48) (v := ?_) (a' := ?_) #[true, true, false, true, false, true, true, false, false, false, false, false, false, false, false, false, false, false, false] rfl rfl (any_of HT_.out (by kernel_rfl)) (fun _ _ _ h => h) (Or.inl ⟨by rfl, ?_⟩) ?_ ?_
     rotate_left
     ·
      intro w'
      go_simp
      with_reducible rfl
     rotate_left
     ·
      simp only [Act.put, List.setIfInBounds_toArray, List.set_cons_zero, List.set_cons_succ, i64_w, i32_w]
      rfl
     refine pure_ (i := 7) (N := some 49) (v := ?_) (a' := ?_) #[true, true, false, true, false, true, true, true, false, false, false, false, false, false, false, false, false, false, false] rfl rfl (any_of HT_.out (by kernel_rfl)) (fun _ _ _ h => h) (Or.inl ⟨by rfl, ?_⟩) ?_ ?_
     rotate_left
     ·
      intro w'
      go_simp
      with_reducible rfl
     rotate_left
     ·
      simp only [Act.put, List.setIfInBounds_toArray, List.set_cons_zero, List.set_cons_succ, i64_w, i32_w]
      rfl
     refine pure_ (i := 11) (N := some 53) (v := ?_) (a' := ?_) #[true, true, false, true, false, true, true, true, false, false, false, true, false, false, false, false, false, false, false] rfl rfl (any_of HT_.out (by kernel_rfl)) (fun _ _ _ h => h) (Or.inl ⟨by rfl, ?_⟩) ?_ ?_
     rotate_left
     ·
      intro w'
      go_simp
      with_reducible rfl
     rotate_left
     ·
      simp only [Act.put, List.setIfInBounds_toArray, List.set_cons_zero, List.set_cons_succ, i64_w, i32_w]
      rfl
     refine pure_ (i := 12) (N := some 54) (v := ?_) (a' := ?_) #[true, true, false, true, false, true, true, true, false, false, false, true, true, false, false, false, false, false, false] rfl rfl (any_of HT_.out (by kernel_rfl)) (fun _ _ _ h => h) (Or.inl ⟨by rfl, ?_⟩) ?_ ?_
     rotate_left
     ·
      intro w'
      go_simp
      with_reducible rfl
     rotate_left
     ·
      simp only [Act.put, List.setIfInBounds_toArray, List.set_cons_zero, List.set_cons_succ, i64_w, i32_w]
      rfl
     refine take_ (i := 2) (N := some 44) (v := ?_) (a' := ?_) #[true, true, true, true, false, true, true, true, false, false, false, true, true, false, false, false, false, false, false] rfl rfl (take_ofW HT_.out HW_.out (by kernel_rfl)) (fun _ _ _ h => h) (Or.inl ⟨by rfl, ?_⟩) hHeld ?_ ?_
     rotate_left
     ·
      rintro w' ⟨s0, s1, s2, s3, s4, s5, s6⟩
      go_simp
      with_reducible rfl
     rotate_left
     ·
      simp only [Act.put, List.setIfInBounds_toArray, List.set_cons_zero, List.set_cons_succ, i64_w, i32_w]
      rfl
     refine take_ (i := 4) (N := some 46) (v := ?_) (a' := ?_) #[true, true, true, true, true, true, true, true, false, false, false, true, true, false, false, false, false, false, false] rfl rfl (take_ofW HT_.out HW_.out (by kernel_rfl)) (fun _ _ _ h => h) (Or.inl ⟨by rfl, ?_⟩) hHeld ?_ ?_
     rotate_left
     ·
      rintro w' ⟨s0, s1, s2, s3, s4, s5, s6⟩
      go_simp
      with_reducible rfl
     rotate_left
     ·
      simp only [Act.put, List.setIfInBounds_toArray, List.set_cons_zero, List.set_cons_succ, i64_w, i32_w]
      rfl
     refine take_ (i := 8) (N := some 50) (v := ?_) (a' := ?_) #[true, true, true, true, true, true, true, true, true, false, false, true, true, false, false, false, false, false, false] rfl rfl (take_ofW HT_.out HW_.out (by kernel_rfl)) (fun _ _ _ h => h) (Or.inl ⟨by rfl, ?_⟩) hHeld ?_ ?_
     rotate_left
     ·
      rintro w' ⟨s0, s1, s2, s3, s4, s5, s6⟩
      go_simp
      with_reducible rfl
     rotate_left
     ·
      simp only [Act.put, List.setIfInBounds_toArray, List.set_cons_zero, List.set_cons_succ, i64_w, i32_w]
      rfl
     refine pure_ (i := 9) (N := some 51) (v := ?_) (a' := ?_) #[true, true, true, true, true, true, true, true, true, true, false, true, true, false, false, false, false, false, false] rfl rfl (any_of HT_.out (by kernel_rfl)) (fun _ _ _ h => h) (Or.inl ⟨by rfl, ?_⟩) ?_ ?_
     rotate_left
     ·
      intro w'
      go_simp
      with_reducible rfl
     rotate_left
     ·
      simp only [Act.put, List.setIfInBounds_toArray, List.set_cons_zero, List.set_cons_succ, i64_w, i32_w]
      rfl
     refine take_ (i := 10) (N := some 52) (v := ?_) (a' := ?_) #[true, true, true, true, true, true, true, true, true, true, true, true, true, false, false, false, false, false, false] rfl rfl (take_ofW HT_.out HW_.out (by kernel_rfl)) (fun _ _ _ h => h) (Or.inl ⟨by rfl, ?_⟩) hHeld ?_ ?_
     rotate_left
     ·
      rintro w' ⟨s0, s1, s2, s3, s4, s5, s6⟩
      go_simp
      with_reducible rfl
     rotate_left
     ·
      simp only [Act.put, List.setIfInBounds_toArray, List.set_cons_zero, List.set_cons_succ, i64_w, i32_w]
      rfl
     refine take_ (i := 13) (N := some 55) (v := ?_) (a' := ?_) #[true, true, true, true, true, true, true, true, true, true, true, true, true, true, false, false, false, false, false] rfl rfl (take_ofW HT_.out HW_.out (by kernel_rfl)) (fun _ _ _ h => h) (Or.inl ⟨by rfl, ?_⟩) hHeld ?_ ?_
     rotate_left
     ·
      rintro w' ⟨s0, s1, s2, s3, s4, s5, s6⟩
      go_simp
      with_reducible rfl
     rotate_left
     ·
      simp only [Act.put, List.setIfInBounds_toArray, List.set_cons_zero, List.set_cons_succ, i64_w, i32_w]
      rfl
     refine pure_ (i := 14) (N := some 56) (v := ?_) (a' := ?_) #[true, true, true, true, true, true, true, true, true, true, true, true, true, true, true, false, false, false, false] rfl rfl (any_of HT_.out (by kernel_rfl)) (fun _ _ _ h => h) (Or.inl ⟨by rfl, ?_⟩) ?_ ?_
     rotate_left
     ·
      intro w'
      go_simp
      with_reducible rfl
     rotate_left
     ·
      simp only [Act.put, List.setIfInBounds_toArray, List.set_cons_zero, List.set_cons_succ, i64_w, i32_w]
      rfl
     refine take_ (i := 15) (N := some 57) (v := ?_) (a' := ?_) #[true, true, true, true, true, true, true, true, true, true, true, true, true, true, true, true, false, false, false] rfl rfl (take_ofW HT_.out HW_.out (by kernel_rfl)) (fun _ _ _ h => h) (Or.inl ⟨by rfl, ?_⟩) hHeld ?_ ?_
     rotate_left
     ·
      rintro w' ⟨s0, s1, s2, s3, s4, s5, s6⟩
      go_simp
      with_reducible rfl
     rotate_left
     ·
      simp only [Act.put, List.setIfInBounds_toArray, List.set_cons_zero, List.set_cons_succ, i64_w, i32_w]
      rfl
     refine one_ (i := 16) (N := some 58) #[true, true, true, true, true, true, true, true, true, true, true, true, true, true, true, true, true, false, false] rfl rfl (one_of HT_.out (by kernel_rfl)) (by decide) (fun K hK => ?_)
     refine goes_ Try.func102 (by kernel_rfl) rfl #[.int .i64 ((rd_T75 l1 x13_1).f2), .int .i64 a0, .int .i64 (rd x10_1 ((rd_T75 l1 x13_1).f3)), .int .i64 (rd x10_1 ((rd_T75 l1 x13_1).f4))] (by rfl) rfl rfl (by (try simp only [List.map_toArray, List.map_cons, List.map_nil]); first | done | rfl | (simp only [List.length_drop, List.length_take]; rfl)) ?_
     with_reducible refine (spec_l01Do.calls ((rd_T75 l1 x13_1).f2) a0 (rd x10_1 ((rd_T75 l1 x13_1).f3)) (rd x10_1 ((rd_T75 l1 x13_1).f4)) t251 _ A21.out).mono ?_
     rintro e w' ⟨rfl, ⟨nd, rfl⟩⟩
     refine ⟨_, rfl, ?_⟩
     have p24 : 0 ≤ (((rd_T75 l1 x13_1).f1) : Int) := od (by assumption)
     have q24 : (((rd_T75 l1 x13_1).f1) : Int) < ((x10_1.length : Int) : Int) := od (by assumption)
     obtain ⟨go24, co24, eo24, gb24, gl24, cl24, HG24⟩ := Kd.R_form HO_10.out (by omega)
     (first | cases eo24 | (injection eo24 with ea_ en_ ec_; (first | subst ea_ | (injection ea_ with ea_; subst ea_)); subst ec_; clear en_))
     have GB24 := am gb24
     have GG24 := am HG24
     clear gb24 gl24 HG24
     (first | simp only [add_plain] at hx249_0 | skip)
     (first | simp only [add_plain] at hx250_0 | skip)
     obtain ⟨hx24_0, hf24_0⟩ := Kd.R_celln 0 HO_10.out (((rd_T75 l1 x13_1).f1) : Int) p24 q24
     replace p24 := eq_true p24; replace q24 := eq_true q24
     have HP31 := Kd.R_putn HO_10.out (((rd_T75 l1 x13_1).f1) : Int) t251
     rw [← Ny252.out] at HP31
     have HQ31 := am HP31
     clear HP31
     refine hK.out _ _ ⟨(blk_cell BK248.out 0).trans rfl, (blk_cell BK248.out 1).trans rfl, (blk_cell BK248.out 2).trans rfl, (blk_cell BK248.out 3).trans rfl, (blk_cell BK248.out 4).trans rfl, hHeld.2.2.2.2.2.1, hHeld.2.2.2.2.2.2⟩ (fun hHeld => ?_)
     clear hK K
     refine norm_ (a' := ?_) ?_ ?_
     rotate_left
     ·
      show Act.put _ (some 58) _ = _
      simp only [Act.put, List.setIfInBounds_toArray, List.set_cons_zero, List.set_cons_succ, i64_w, i32_w]
      rfl
     refine pure_ (i := 17) (N := some 59) (v := ?_) (a' := ?_) #[true, true, true, true, true, true, true, true, true, true, true, true, true, true, true, true, true, true, false] rfl rfl (any_of HT_.out (by kernel_rfl)) (fun _ _ _ h => h) (Or.inl ⟨by rfl, ?_⟩) ?_ ?_
     rotate_left
     ·
      intro w'
      go_simp
      with_reducible rfl
     rotate_left
     ·
      simp only [Act.put, List.setIfInBounds_toArray, List.set_cons_zero, List.set_cons_succ, i64_w, i32_w]
      rfl
     refine last_ (i := 18) (N := none) #[true, true, true, true, true, true, true, true, true, true, true, true, true, true, true, true, true, true, true] rfl rfl (one_of HT_.out (by kernel_rfl)) (by decide) (fun K hK => ?_)
     refine skip_ (w1 := ?_) (by rfl) rfl ?_ ?_
     rotate_left
     ·
      go_simp
      rfl
     refine hK.out _ _ ?_
     clear hK K
     refine done_ (done_of HT_.out (by kernel_rfl)) ?_
     try go_wp2_with (first | ((with_reducible refine gate_builtin (b := .append) (xs := #[.tmp 60, .tmp 62]) rfl ?_); at_builtin; refine Kd.R_append (Kd.int .i64) (w0 := w) w.heap.size rfl (.tmp 60) (.tmp 62) 22 2 (.int .i64 0) 8 rfl Try.underlying22 info2 rfl (by decide) (by omega) u11 x11_1 x13_1 [.int .i64 x13_1] (fun k_ => some k_ ≠ (v236 : Value).ownBlock ∧ some k_ ≠ (.slice (some ⟨go24, 0, none⟩) x10_1.length co30 : Value).ownBlock ∧ some k_ ≠ (v245 : Value).ownBlock) (fun _ => False) rfl (by first | (go_simp; done) | (go_simp; rfl)) ?aP (fun _ hk => hk.elim) ?aF ?aO ?aB ?aS ?aL ?_; (case aP => exact rfl); (case aB => exact (by repeat (first | (with_reducible first | exact HB.out | apply below_alloc | apply pw_below_drewN | apply below_drew1 | refine below_set ?_ GB24.out | refine below_set ?_ GE248.out) | exact HB.out))); (case aF => exact (fun k_ hk => ⟨Kd.fresh' (Kd.R_lt (by (with_reducible repeat (first | apply Kd.R_alloc | apply Kd.R_drewN | apply Kd.R_drew)); exact (Kd.R_mono (Kd.R_far (p := ⟨go24, (((rd_T75 l1 x13_1).f1) : Int).toNat, none⟩) (Kd.R_mono HO_8.out (fun k_ hk => (⟨hk, fun e_ => hk.1 (by rw [e_]; rfl)⟩ : _ ∧ k_ ≠ go24))) (fun _ hk => hk.2) (.int .i64 t251)) (fun _ h_ => h_.1)))) k_ hk, Kd.fresh' (Kd.R_lt (by (with_reducible repeat (first | apply Kd.R_alloc | apply Kd.R_drewN | apply Kd.R_drew)); exact HQ31.out)) k_ hk, Kd.fresh' (Kd.R_lt (by (with_reducible repeat (first | apply Kd.R_alloc | apply Kd.R_drewN | apply Kd.R_drew)); exact (Kd.R_mono (Kd.R_far (p := ⟨go24, (((rd_T75 l1 x13_1).f1) : Int).toNat, none⟩) (Kd.R_mono HO_12.out (fun k_ hk => (⟨hk, fun e_ => hk.2.1 (by rw [e_]; rfl)⟩ : _ ∧ k_ ≠ go24))) (fun _ hk => hk.2) (.int .i64 t251)) (fun _ h_ => h_.1)))) k_ hk⟩)); (case aO => exact (by (with_reducible repeat (first | apply Kd.R_alloc | apply Kd.R_drewN | apply Kd.R_drew)); exact Kd.R_mono (Kd.R_far (p := ⟨go24, (((rd_T75 l1 x13_1).f1) : Int).toNat, none⟩) (Kd.R_mono HO_11.out (fun k_ hk => (⟨hk, fun e_ => hk.2.1 (by rw [e_]; rfl)⟩ : _ ∧ k_ ≠ go24))) (fun _ hk => hk.2) (.int .i64 t251)) (fun _ hk => ⟨hk.1.1, ⟨hk.1.2.1, hk.1.2.2⟩⟩))); (case aS => exact (below_size (by repeat (first | (with_reducible first | exact HB.out | apply below_alloc | apply pw_below_drewN | apply below_drew1 | refine below_set ?_ GB24.out | refine below_set ?_ GE248.out) | exact HB.out)))); (case aL => have := LMc25.out; omega); intro v254 w32 ho hb hg hat; rw [← Ny253.out] at ho; have n0_ := am (Kd.R_after (ok := (fun k_ => some k_ ≠ (.slice (some ⟨go24, 0, none⟩) x10_1.length co30 : Value).ownBlock ∧ some k_ ≠ (v245 : Value).ownBlock)) (by (with_reducible repeat (first | apply Kd.R_alloc | apply Kd.R_drewN | apply Kd.R_drew)); exact Kd.R_mono (Kd.R_far (p := ⟨go24, (((rd_T75 l1 x13_1).f1) : Int).toNat, none⟩) (Kd.R_mono HO_8.out (fun k_ hk => (⟨hk, fun e_ => hk.1 (by rw [e_]; rfl)⟩ : _ ∧ k_ ≠ go24))) (fun _ hk => hk.2) (.int .i64 t251)) (fun _ hk => ⟨⟨hk.1.1, hk.1.2.2⟩, hk.1.2.1⟩)) hg hat); have n1_ := am (Kd.R_after (ok := (fun k_ => some k_ ≠ (v236 : Value).ownBlock ∧ some k_ ≠ (v245 : Value).ownBlock)) (by (with_reducible repeat (first | apply Kd.R_alloc | apply Kd.R_drewN | apply Kd.R_drew)); exact Kd.R_mono HQ31.out (fun _ hk => ⟨⟨hk.1, hk.2.2⟩, hk.2.1⟩)) hg hat); have n2_ := am (Kd.R_after (ok := (fun k_ => some k_ ≠ (v236 : Value).ownBlock ∧ some k_ ≠ (.slice (some ⟨go24, 0, none⟩) x10_1.length co30 : Value).ownBlock)) (by (with_reducible repeat (first | apply Kd.R_alloc | apply Kd.R_drewN | apply Kd.R_drew)); exact Kd.R_mono (Kd.R_far (p := ⟨go24, (((rd_T75 l1 x13_1).f1) : Int).toNat, none⟩) (Kd.R_mono HO_12.out (fun k_ hk => (⟨hk, fun e_ => hk.2.1 (by rw [e_]; rfl)⟩ : _ ∧ k_ ≠ go24))) (fun _ hk => hk.2) (.int .i64 t251)) (fun _ hk => ⟨⟨hk.1.1, hk.1.2.1⟩, hk.1.2.2⟩)) hg hat); have n3_ := am (blk_grown (g := gb248) (o := .cells #[.int .i64 ((rd_T75 l1 x13_1).f0), .int .i64 ((rd_T75 l1 x13_1).f1), .int .i64 ((rd_T75 l1 x13_1).f2), .int .i64 ((rd_T75 l1 x13_1).f3), .int .i64 ((rd_T75 l1 x13_1).f4)] 75 (0, 0)) (by (with_reducible repeat (first | refine blk_drewN ?_ _ | refine blk_drew ?_ | refine blk_alloc ?_ _)); refine blk_far ?_ (by have h_ := Kd.R_ne HO_10.out BK248.out (by decide); intro e_; exact h_ (by rw [e_]; rfl)) _; (with_reducible repeat (first | refine blk_drewN ?_ _ | refine blk_drew ?_ | refine blk_alloc ?_ _)); exact BK248.out) hg (Kd.R_ne HO_11.out BK248.out (by decide))); have n4_ := am (hb); have n5_ := am (ho); clear HO_8; clear HO_10; clear HO_12; clear BK248; clear HB; clear HO_11; have HO_8 := n0_; have HO_10 := n1_; have HO_12 := n2_; have BK248 := n3_; have HB := n4_; have HO255 := n5_; clear n0_ n1_ n2_ n3_ n4_ n5_; clear ho hb hg hat))
     go_roundg k1
     case measure => have := HK1.out; omega
     case rel => exact ⟨(y252), (y253), (x12_1), (wrap64 (x13_1 + 1)), (by first | rfl | (simp; done) | (simp [*]; done)), H', ⟨by have := HK1.out; omega⟩, ⟨by first | exact rst (Kd.R_mono HO_8.out (fun _ hk => ⟨hk.1.1, ⟨hk.2, hk.1.2⟩⟩)) | exact Kd.R_mono (rst (Kd.R_mono HO_8.out (fun _ hk => ⟨hk.1.1, ⟨hk.2, hk.1.2⟩⟩))) (by intro k_ hk_; simpa only [ob_eq] using hk_)⟩, ⟨by first | exact rst (Kd.R_mono HO_10.out (fun _ hk => ⟨hk.1.1, ⟨hk.2, hk.1.2⟩⟩)) | exact Kd.R_mono (rst (Kd.R_mono HO_10.out (fun _ hk => ⟨hk.1.1, ⟨hk.2, hk.1.2⟩⟩))) (by intro k_ hk_; simpa only [ob_eq] using hk_)⟩, ⟨by first | exact rst HO255.out | exact Kd.R_mono (rst HO255.out) (by intro k_ hk_; simpa only [ob_eq] using hk_)⟩, ⟨by first | exact rst (Kd.R_mono HO_12.out (fun _ hk => ⟨hk.1.1, ⟨hk.1.2, hk.2⟩⟩)) | exact Kd.R_mono (rst (Kd.R_mono HO_12.out (fun _ hk => ⟨hk.1.1, ⟨hk.1.2, hk.2⟩⟩))) (by intro k_ hk_; simpa only [ob_eq] using hk_)⟩, ⟨by repeat (first | (with_reducible first | exact HB.out | apply below_alloc | apply pw_below_drewN | apply below_drew1 | refine below_set ?_ GE248.out) | exact HB.out)⟩⟩
    ·
     rw [if_neg c16] at H
     have c16b0 : (((rd_T75 l1 x13_1).f0) == 0) = false := beq_eq_false_iff_ne.mpr c16
     have c16b1 : (((rd_T75 l1 x13_1).f0) != 0) = true := bne_iff_ne.mpr c16
     by_cases c33 : ((rd_T75 l1 x13_1).f0) = 1
     ·
      rw [if_pos c33] at H
      have c33b0 : (((rd_T75 l1 x13_1).f0) == 1) = true := beq_iff_eq.mpr c33
      have c33b1 : (((rd_T75 l1 x13_1).f0) != 1) = false := bne_eq_false_iff_eq.mpr c33
      clear c33
      replace H := ifp H; obtain ⟨c34, H⟩ := H
      have c34b0 : decide (0 ≤ ((rd_T75 l1 x13_1).f1)) = true := decide_eq_true c34
      clear c34
      replace H := ifp H; obtain ⟨c35, H⟩ := H
      have c35b0 : decide (((rd_T75 l1 x13_1).f1) < (x10_1.length : Int)) = true := decide_eq_true c35
      clear c35
      obtain ⟨y256, hy256⟩ : ∃ y_ : List Int, y_ = (x10_1.set (((rd_T75 l1 x13_1).f1) : Int).toNat ((rd_T75 l1 x13_1).f4)) := ⟨_, rfl⟩
      replace H : (if x11_1.length < 17592186044416 then (spec_l08Alone.l0 k1 a0 l1 t234 y256 (x11_1 ++ [x13_1]) x12_1 (wrap64 (x13_1 + 1))) else (none)) = some (r1, r2) := by first | (rw [hy256]; with_reducible exact H) | (have H2_ := bsm H; rw [hy256]; with_reducible exact H2_) | (have H2_ := bsm H; exact H2_) | (rw [hy256]; exact H) | exact H
      have Ny256 := am hy256; clear hy256
      replace H := ifp H; obtain ⟨c37, H⟩ := H
      have LMc37 := am c37
      clear c37
      obtain ⟨y257, hy257⟩ : ∃ y_ : List Int, y_ = (x11_1 ++ [x13_1]) := ⟨_, rfl⟩
      replace H : (spec_l08Alone.l0 k1 a0 l1 t234 y256 y257 x12_1 (wrap64 (x13_1 + 1))) = some (r1, r2) := by first | (rw [hy257]; with_reducible exact H) | (have H2_ := bsm H; rw [hy257]; with_reducible exact H2_) | (have H2_ := bsm H; exact H2_) | (rw [hy257]; exact H) | exact H
      have Ny257 := am hy257; clear hy257; have H' := am H; clear H
      have p247 : 0 ≤ (x13_1 : Int) := od (by assumption)
      have q247 : x13_1 < (l1.length : Int) := od (by assumption)
      obtain ⟨ad247, e247, hx247_0, hx247_1, hx247_2, hx247_3, hx247_4⟩ := at_T75 HR1.out x13_1 p247 q247
      cases e247
      replace hx247_0 := bc HB hx247_0
      replace hx247_1 := bc HB hx247_1
      replace hx247_2 := bc HB hx247_2
      replace hx247_3 := bc HB hx247_3
      replace hx247_4 := bc HB hx247_4
      replace p247 := eq_true p247; replace q247 := eq_true q247
      go_wp2_with (first | ((with_reducible refine gate_dst (N := 14) rfl ?_); refine box_event ?hg (N := 14) ?hd (cs := #[.int .i64 0, .int .i64 0, .int .i64 0, .int .i64 0, .int .i64 0]) (t := 75) ?hr ?_; (case hd => rfl); (case hg => rfl); (case hr => first | (go_simp; done) | (go_simp; rfl)); intro gb248 hg w38 hbox hb; have n0_ := am (Kd.R_below (rst HO_8.out) hb); have n1_ := am (Kd.R_below (rst HO_10.out) hb); have n2_ := am (Kd.R_below (rst HO_11.out) hb); have n3_ := am (Kd.R_below (rst HO_12.out) hb); have n4_ := am (below_step (bst HB) hb); have n5_ := am (hbox); have n6_ := am ((by rw [hg]; exact (below_size (bst HB)) : w.heap.size ≤ gb248)); have n7_ := am ((by rw [hg]; exact (below_size (bst HB)) : w.heap.size ≤ gb248)); clear HO_8; clear HO_10; clear HO_11; clear HO_12; clear HB; have HO_8 := n0_; have HO_10 := n1_; have HO_11 := n2_; have HO_12 := n3_; have HB := n4_; have BK248 := n5_; have GW248 := n6_; have GE248 := n7_; clear n0_ n1_ n2_ n3_ n4_ n5_ n6_ n7_; clear hb hbox hg; obtain ⟨hcz39_0, hcz39_1, hcz39_2, hcz39_3, hcz39_4, hfz39_0, hfz39_1, hfz39_2, hfz39_3, hfz39_4⟩ := bx5 BK248.out) | ((with_reducible refine gate_store (t := 75) (p := 14) rfl ?_); refine store_event (t := 75) (p := 14) (v := ?vo_w40) (w1 := (((((w38.setCell ⟨gb248, 0, none⟩ (.int .i64 ((rd_T75 l1 x13_1).f0))).setCell ⟨gb248, 1, none⟩ (.int .i64 ((rd_T75 l1 x13_1).f1))).setCell ⟨gb248, 2, none⟩ (.int .i64 ((rd_T75 l1 x13_1).f2))).setCell ⟨gb248, 3, none⟩ (.int .i64 ((rd_T75 l1 x13_1).f3))).setCell ⟨gb248, 4, none⟩ (.int .i64 ((rd_T75 l1 x13_1).f4)))) ?hg ?ho ?hn ?hr ?_; (case ho => rfl); (case hg => rfl); (case hn => rfl); (case hr => first | (go_simp; done) | (go_simp; rfl)); intro w40 hw; have n0_ := am (R_b5 hw HO_8.out BK248.out (by decide)); have n1_ := am (R_b5 hw HO_10.out BK248.out (by decide)); have n2_ := am (R_b5 hw HO_11.out BK248.out (by decide)); have n3_ := am (R_b5 hw HO_12.out BK248.out (by decide)); have n4_ := am (blk_b5 hw BK248.out); have n5_ := am (below_b5 hw HB.out GE248.out); clear hw; clear HO_8; clear HO_10; clear HO_11; clear HO_12; clear BK248; clear HB; have HO_8 := n0_; have HO_10 := n1_; have HO_11 := n2_; have HO_12 := n3_; have BK248 := n4_; have HB := n5_; clear n0_ n1_ n2_ n3_ n4_ n5_; obtain ⟨hcz41_0, hcz41_1, hcz41_2, hcz41_3, hcz41_4, hfz41_0, hfz41_1, hfz41_2, hfz41_3, hfz41_4⟩ := bx5 BK248.out; have p36 : 0 ≤ (((rd_T75 l1 x13_1).f1) : Int) := od (by assumption); have q36 : (((rd_T75 l1 x13_1).f1) : Int) < ((x10_1.length : Int) : Int) := od (by assumption); obtain ⟨go36, co36, eo36, gb36, gl36, cl36, HG36⟩ := Kd.R_form HO_10.out (by omega); (first | cases eo36 | (injection eo36 with ea_ en_ ec_; (first | subst ea_ | (injection ea_ with ea_; subst ea_)); subst ec_; clear en_)); have GB36 := am gb36; have GG36 := am HG36; clear gb36 gl36 HG36; obtain ⟨hx36_0, hf36_0⟩ := Kd.R_celln 0 HO_10.out (((rd_T75 l1 x13_1).f1) : Int) p36 q36; replace p36 := eq_true p36; replace q36 := eq_true q36; obtain ⟨hy42_, hz42_⟩ := Kd.R_celln 0 HO_10.out (((rd_T75 l1 x13_1).f1) : Int) (od (by assumption)) (od (by assumption)); have HP42 := Kd.R_putg HO_10.out (((rd_T75 l1 x13_1).f1) : Int) ((rd_T75 l1 x13_1).f4)) | ((with_reducible refine gate_store (t := 2) (p := 71) rfl ?_); refine store_event (t := 2) (p := 71) (v := ?vo_w43) (w1 := (w40.setCell ⟨go36, (((rd_T75 l1 x13_1).f1) : Int).toNat, none⟩ (.int .i64 ((rd_T75 l1 x13_1).f4)))) ?hg ?ho ?hn ?hr ?_; (case ho => rfl); (case hg => rfl); (case hn => rfl); (case hr => first | (go_simp; done) | (go_simp; rfl)); intro w43 hw; have hg : w40.grownBy w43 (some go36) := (by rw [hw]; exact HP42.2); have hp_ : Kd.R (Kd.int .i64) 2 w43 w.heap.size (fun k_ => some k_ ≠ (v236 : Value).ownBlock ∧ some k_ ≠ (u11 : Value).ownBlock ∧ some k_ ≠ (v245 : Value).ownBlock) (.slice (some ⟨go36, 0, none⟩) x10_1.length co36) y256 := (by rw [hw, Ny256.out]; exact HP42.1); clear HP42; have n0_ := am (Kd.R_after (v := (.slice (some ⟨go36, 0, none⟩) x10_1.length co36)) (v1 := (.slice (some ⟨go36, 0, none⟩) x10_1.length co36)) (ok := (fun k_ => some k_ ≠ (u11 : Value).ownBlock ∧ some k_ ≠ (v245 : Value).ownBlock)) (rst (Kd.R_mono HO_8.out (fun _ hk => ⟨⟨hk.2.1, hk.2.2⟩, hk.1⟩))) hg (.inl rfl)); have n1_ := am (hp_); have n2_ := am (Kd.R_after (v := (.slice (some ⟨go36, 0, none⟩) x10_1.length co36)) (v1 := (.slice (some ⟨go36, 0, none⟩) x10_1.length co36)) (ok := (fun k_ => some k_ ≠ (v236 : Value).ownBlock ∧ some k_ ≠ (v245 : Value).ownBlock)) (rst (Kd.R_mono HO_11.out (fun _ hk => ⟨⟨hk.1, hk.2.2⟩, hk.2.1⟩))) hg (.inl rfl)); have n3_ := am (Kd.R_after (v := (.slice (some ⟨go36, 0, none⟩) x10_1.length co36)) (v1 := (.slice (some ⟨go36, 0, none⟩) x10_1.length co36)) (ok := (fun k_ => some k_ ≠ (v236 : Value).ownBlock ∧ some k_ ≠ (u11 : Value).ownBlock)) (rst (Kd.R_mono HO_12.out (fun _ hk => ⟨⟨hk.1, hk.2.2⟩, hk.2.1⟩))) hg (.inl rfl)); have n4_ := am (blk_grown (g := gb248) (o := .cells #[.int .i64 ((rd_T75 l1 x13_1).f0), .int .i64 ((rd_T75 l1 x13_1).f1), .int .i64 ((rd_T75 l1 x13_1).f2), .int .i64 ((rd_T75 l1 x13_1).f3), .int .i64 ((rd_T75 l1 x13_1).f4)] 75 (0, 0)) (by (with_reducible repeat (first | refine blk_drewN ?_ _ | refine blk_drew ?_ | refine blk_alloc ?_ _)); exact BK248.out) hg (Kd.R_ne HO_10.out BK248.out (by decide))); have n5_ := am ((by rw [hw]; exact below_set (HB.out) GB36.out : Below w.heap.size w w43)); clear HO_8; clear HO_10; clear HO_11; clear HO_12; clear BK248; clear HB; have HO_8 := n0_; have HO_10 := n1_; have HO_11 := n2_; have HO_12 := n3_; have BK248 := n4_; have HB := n5_; clear n0_ n1_ n2_ n3_ n4_ n5_; clear hg hw hp_) | ((with_reducible refine gate_builtin (b := .append) (xs := #[.tmp 72, .tmp 74]) rfl ?_); at_builtin; refine Kd.R_append (Kd.int .i64) (w0 := w) w.heap.size rfl (.tmp 72) (.tmp 74) 22 2 (.int .i64 0) 8 rfl Try.underlying22 info2 rfl (by decide) (by omega) u11 x11_1 x13_1 [.int .i64 x13_1] (fun k_ => some k_ ≠ (v236 : Value).ownBlock ∧ some k_ ≠ (.slice (some ⟨go36, 0, none⟩) x10_1.length co36 : Value).ownBlock ∧ some k_ ≠ (v245 : Value).ownBlock) (fun _ => False) rfl rfl ?aP (fun _ hk => hk.elim) ?aF ?aO ?aB ?aS ?aL ?_; (case aP => exact rfl); (case aB => exact (by repeat (first | (with_reducible first | exact HB.out | apply below_alloc | apply pw_below_drewN | apply below_drew1 | refine below_set ?_ GE248.out) | exact HB.out))); (case aF => exact (fun k_ hk => ⟨Kd.fresh' (Kd.R_lt (rst HO_8.out)) k_ hk, Kd.fresh' (Kd.R_lt (rst HO_10.out)) k_ hk, Kd.fresh' (Kd.R_lt (rst HO_12.out)) k_ hk⟩)); (case aO => exact (rst (Kd.R_mono HO_11.out (fun _ hk => ⟨hk.1.1, ⟨hk.2, hk.1.2⟩⟩)))); (case aS => exact (below_size (by repeat (first | (with_reducible first | exact HB.out | apply below_alloc | apply pw_below_drewN | apply below_drew1 | refine below_set ?_ GE248.out) | exact HB.out)))); (case aL => have := LMc37.out; omega); intro v258 w44 ho hb hg hat; rw [← Ny257.out] at ho; have n0_ := am (Kd.R_after (ok := (fun k_ => some k_ ≠ (.slice (some ⟨go36, 0, none⟩) x10_1.length co36 : Value).ownBlock ∧ some k_ ≠ (v245 : Value).ownBlock)) (rst (Kd.R_mono HO_8.out (fun _ hk => ⟨⟨hk.2, hk.1.2⟩, hk.1.1⟩))) hg hat); have n1_ := am (Kd.R_after (ok := (fun k_ => some k_ ≠ (v236 : Value).ownBlock ∧ some k_ ≠ (v245 : Value).ownBlock)) (rst (Kd.R_mono HO_10.out (fun _ hk => ⟨⟨hk.1, hk.2.2⟩, hk.2.1⟩))) hg hat); have n2_ := am (Kd.R_after (ok := (fun k_ => some k_ ≠ (v236 : Value).ownBlock ∧ some k_ ≠ (.slice (some ⟨go36, 0, none⟩) x10_1.length co36 : Value).ownBlock)) (rst (Kd.R_mono HO_12.out (fun _ hk => ⟨⟨hk.1.1, hk.2⟩, hk.1.2⟩))) hg hat); have n3_ := am (blk_grown (g := gb248) (o := .cells #[.int .i64 ((rd_T75 l1 x13_1).f0), .int .i64 ((rd_T75 l1 x13_1).f1), .int .i64 ((rd_T75 l1 x13_1).f2), .int .i64 ((rd_T75 l1 x13_1).f3), .int .i64 ((rd_T75 l1 x13_1).f4)] 75 (0, 0)) (by (with_reducible repeat (first | refine blk_drewN ?_ _ | refine blk_drew ?_ | refine blk_alloc ?_ _)); exact BK248.out) hg (Kd.R_ne HO_11.out BK248.out (by decide))); have n4_ := am (hb); have n5_ := am (ho); clear HO_8; clear HO_10; clear HO_12; clear BK248; clear HB; clear HO_11; have HO_8 := n0_; have HO_10 := n1_; have HO_12 := n2_; have BK248 := n3_; have HB := n4_; have HO259 := n5_; clear n0_ n1_ n2_ n3_ n4_ n5_; clear ho hb hg hat))
      go_roundg k1
      case measure => have := HK1.out; omega
      case rel => exact ⟨(y256), (y257), (x12_1), (wrap64 (x13_1 + 1)), (by first | rfl | (simp; done) | (simp [*]; done)), H', ⟨by have := HK1.out; omega⟩, ⟨by first | exact rst (Kd.R_mono HO_8.out (fun _ hk => ⟨hk.1.1, ⟨hk.2, hk.1.2⟩⟩)) | exact Kd.R_mono (rst (Kd.R_mono HO_8.out (fun _ hk => ⟨hk.1.1, ⟨hk.2, hk.1.2⟩⟩))) (by intro k_ hk_; simpa only [ob_eq] using hk_)⟩, ⟨by first | exact rst (Kd.R_mono HO_10.out (fun _ hk => ⟨hk.1.1, ⟨hk.2, hk.1.2⟩⟩)) | exact Kd.R_mono (rst (Kd.R_mono HO_10.out (fun _ hk => ⟨hk.1.1, ⟨hk.2, hk.1.2⟩⟩))) (by intro k_ hk_; simpa only [ob_eq] using hk_)⟩, ⟨by first | exact rst HO259.out | exact Kd.R_mono (rst HO259.out) (by intro k_ hk_; simpa only [ob_eq] using hk_)⟩, ⟨by first | exact rst (Kd.R_mono HO_12.out (fun _ hk => ⟨hk.1.1, ⟨hk.1.2, hk.2⟩⟩)) | exact Kd.R_mono (rst (Kd.R_mono HO_12.out (fun _ hk => ⟨hk.1.1, ⟨hk.1.2, hk.2⟩⟩))) (by intro k_ hk_; simpa only [ob_eq] using hk_)⟩, ⟨by repeat (first | (with_reducible first | exact HB.out | apply below_alloc | apply pw_below_drewN | apply below_drew1 | refine below_set ?_ GE248.out) | exact HB.out)⟩⟩
     ·
      rw [if_neg c33] at H
      have c33b0 : (((rd_T75 l1 x13_1).f0) == 1) = false := beq_eq_false_iff_ne.mpr c33
      have c33b1 : (((rd_T75 l1 x13_1).f0) != 1) = true := bne_iff_ne.mpr c33
      by_cases c45 : ((rd_T75 l1 x13_1).f0) = 2
      ·
       rw [if_pos c45] at H
       have c45b0 : (((rd_T75 l1 x13_1).f0) == 2) = true := beq_iff_eq.mpr c45
       have c45b1 : (((rd_T75 l1 x13_1).f0) != 2) = false := bne_eq_false_iff_eq.mpr c45
       clear c45
       replace H := ifp H; obtain ⟨c46, H⟩ := H
       have c46b0 : decide (0 ≤ ((rd_T75 l1 x13_1).f3)) = true := decide_eq_true c46
       clear c46
       replace H := ifp H; obtain ⟨c47, H⟩ := H
       have c47b0 : decide (((rd_T75 l1 x13_1).f3) < (x10_1.length : Int)) = true := decide_eq_true c47
       clear c47
       replace H := ifp H; obtain ⟨c48, H⟩ := H
       have c48b0 : decide (0 ≤ ((rd_T75 l1 x13_1).f4)) = true := decide_eq_true c48
       clear c48
       replace H := ifp H; obtain ⟨c49, H⟩ := H
       have c49b0 : decide (((rd_T75 l1 x13_1).f4) < (x10_1.length : Int)) = true := decide_eq_true c49
       clear c49
       replace H := Option.bind_eq_some_iff.mp H
       obtain ⟨t262, A500, H⟩ := H
       replace H : (if t262 = true then (spec_l08Alone.l0 k1 a0 l1 t234 x10_1 x11_1 x12_1 (wrap64 (x13_1 + 1))) else (if x13_1 < (t234.length : Int) then (spec_l08Alone.l0 k1 a0 l1 t234 x10_1 x11_1 x12_1 (wrap64 ((rd t234 x13_1) + 1))) else (none))) = some (r1, r2) := H
       have A50 := am A500
       clear A500
       by_cases c51 : t262 = true
       ·
        subst c51
        have H1 : (spec_l08Alone.l0 k1 a0 l1 t234 x10_1 x11_1 x12_1 (wrap64 (x13_1 + 1))) = some (r1, r2) := by rw [if_pos rfl] at H; exact H
        clear H
        have H := H1
        clear H1; have H' := am H; clear H
        have p247 : 0 ≤ (x13_1 : Int) := od (by assumption)
        have q247 : x13_1 < (l1.length : Int) := od (by assumption)
        obtain ⟨ad247, e247, hx247_0, hx247_1, hx247_2, hx247_3, hx247_4⟩ := at_T75 HR1.out x13_1 p247 q247
        cases e247
        replace hx247_0 := bc HB hx247_0
        replace hx247_1 := bc HB hx247_1
        replace hx247_2 := bc HB hx247_2
        replace hx247_3 := bc HB hx247_3
        replace hx247_4 := bc HB hx247_4
        replace p247 := eq_true p247; replace q247 := eq_true q247
        try go_wp2_with (first | ((with_reducible refine gate_dst (N := 14) rfl ?_); refine box_event ?hg (N := 14) ?hd (cs := #[.int .i64 0, .int .i64 0, .int .i64 0, .int .i64 0, .int .i64 0]) (t := 75) ?hr ?_; (case hd => rfl); (case hg => rfl); (case hr => first | (go_simp; done) | (go_simp; rfl)); intro gb248 hg w52 hbox hb; have n0_ := am (Kd.R_below (rst HO_8.out) hb); have n1_ := am (Kd.R_below (rst HO_10.out) hb); have n2_ := am (Kd.R_below (rst HO_11.out) hb); have n3_ := am (Kd.R_below (rst HO_12.out) hb); have n4_ := am (below_step (bst HB) hb); have n5_ := am (hbox); have n6_ := am ((by rw [hg]; exact (below_size (bst HB)) : w.heap.size ≤ gb248)); have n7_ := am ((by rw [hg]; exact (below_size (bst HB)) : w.heap.size ≤ gb248)); clear HO_8; clear HO_10; clear HO_11; clear HO_12; clear HB; have HO_8 := n0_; have HO_10 := n1_; have HO_11 := n2_; have HO_12 := n3_; have HB := n4_; have BK248 := n5_; have GW248 := n6_; have GE248 := n7_; clear n0_ n1_ n2_ n3_ n4_ n5_ n6_ n7_; clear hb hbox hg; obtain ⟨hcz53_0, hcz53_1, hcz53_2, hcz53_3, hcz53_4, hfz53_0, hfz53_1, hfz53_2, hfz53_3, hfz53_4⟩ := bx5 BK248.out))
        generalize hwb_ : (((((w52.setCell ⟨gb248, 0, none⟩ (.int .i64 ((rd_T75 l1 x13_1).f0))).setCell ⟨gb248, 1, none⟩ (.int .i64 ((rd_T75 l1 x13_1).f1))).setCell ⟨gb248, 2, none⟩ (.int .i64 ((rd_T75 l1 x13_1).f2))).setCell ⟨gb248, 3, none⟩ (.int .i64 ((rd_T75 l1 x13_1).f3))).setCell ⟨gb248, 4, none⟩ (.int .i64 ((rd_T75 l1 x13_1).f4))) = w54
        have n0_ := am (R_b5 hwb_.symm HO_8.out BK248.out (by decide))
        have n1_ := am (R_b5 hwb_.symm HO_10.out BK248.out (by decide))
        have n2_ := am (R_b5 hwb_.symm HO_11.out BK248.out (by decide))
        have n3_ := am (R_b5 hwb_.symm HO_12.out BK248.out (by decide))
        have n4_ := am (blk_b5 hwb_.symm BK248.out)
        have n5_ := am (below_b5 hwb_.symm HB.out GE248.out)
        (try clear HO_8)
        (try clear HO_10)
        (try clear HO_11)
        (try clear HO_12)
        (try clear BK248)
        (try clear HB)
        clear hwb_
        have HO_8 := n0_
        have HO_10 := n1_
        have HO_11 := n2_
        have HO_12 := n3_
        have BK248 := n4_
        have HB := n5_
        clear n0_ n1_ n2_ n3_ n4_ n5_
        have n0_ := am (Kd.R_drew HO_8.out)
        have n1_ := am (Kd.R_drew HO_10.out)
        have n2_ := am (Kd.R_drew HO_11.out)
        have n3_ := am (Kd.R_drew HO_12.out)
        have n4_ := am (blk_drew BK248.out)
        have n5_ := am (below_drew1 HB.out)
        clear HO_8; clear HO_10; clear HO_11; clear HO_12; clear BK248; clear HB
        have HO_8 := n0_
        have HO_10 := n1_
        have HO_11 := n2_
        have HO_12 := n3_
        have BK248 := n4_
        have HB := n5_
        clear n0_ n1_ n2_ n3_ n4_ n5_
        obtain ⟨Ao56, co56, eo56⟩ := Kd.R_slice HO_10.out
        (first | subst eo56 | (injection eo56 with f1_ f2_ f3_; have f4_ := f1_.symm; have f5_ := f3_.symm; clear f1_ f2_ f3_; subst f4_; subst f5_))
        have p260 : 0 ≤ (((rd_T75 l1 x13_1).f3) : Int) := od (by assumption)
        have q260 : ((rd_T75 l1 x13_1).f3) < (x10_1.length : Int) := od (by assumption)
        obtain ⟨ad260, e260, hx260_0⟩ := Kd.at_int (Kd.R_reads' HO_10.out).2.2 ((rd_T75 l1 x13_1).f3) p260 q260
        cases e260
        replace p260 := eq_true p260; replace q260 := eq_true q260
        have p261 : 0 ≤ (((rd_T75 l1 x13_1).f4) : Int) := od (by assumption)
        have q261 : ((rd_T75 l1 x13_1).f4) < (x10_1.length : Int) := od (by assumption)
        obtain ⟨ad261, e261, hx261_0⟩ := Kd.at_int (Kd.R_reads' HO_10.out).2.2 ((rd_T75 l1 x13_1).f4) p261 q261
        obtain rfl : ad260 = ad261 := (by injection e261)
        replace p261 := eq_true p261; replace q261 := eq_true q261
        refine start_ (n := 15) (S := fun w' => w'.cell? ⟨gb248, 0, none⟩ = some (.int .i64 ((rd_T75 l1 x13_1).f0)) ∧ w'.cell? ⟨gb248, 1, none⟩ = some (.int .i64 ((rd_T75 l1 x13_1).f1)) ∧ w'.cell? ⟨gb248, 2, none⟩ = some (.int .i64 ((rd_T75 l1 x13_1).f2)) ∧ w'.cell? ⟨gb248, 3, none⟩ = some (.int .i64 ((rd_T75 l1 x13_1).f3)) ∧ w'.cell? ⟨gb248, 4, none⟩ = some (.int .i64 ((rd_T75 l1 x13_1).f4)) ∧ w'.cell? (ad260.add (((rd_T75 l1 x13_1).f3)).toNat) = some (.int .i64 (rd x10_1 ((rd_T75 l1 x13_1).f3))) ∧ w'.cell? (ad260.add (((rd_T75 l1 x13_1).f4)).toNat) = some (.int .i64 (rd x10_1 ((rd_T75 l1 x13_1).f4)))) (ds := []) #[false, false, false, false, false, false, false, false, false, false, false, false, false, false, false] (by kernel_rfl) rfl rfl ⟨(blk_cell BK248.out 0).trans rfl, (blk_cell BK248.out 1).trans rfl, (blk_cell BK248.out 2).trans rfl, (blk_cell BK248.out 3).trans rfl, (blk_cell BK248.out 4).trans rfl, hx260_0, hx261_0⟩ (fun hHeld => ?_); refine with_tabW spec_l08Alone.tab17 spec_l08Alone.bits17 (fun HT_ HW_ => ?_)
        generalize w54.drew = w55 at HO_8 HO_10 HO_11 HO_12 BK248 HB hx260_0 hx261_0 hHeld ⊢
        refine pure_ (i := 0) (N := some 78) (v := ?_) (a' := ?_) #[true, false, false, false, false, false, false, false, false, false, false, false, false, false, false] rfl rfl (any_of HT_.out (by kernel_rfl)) (fun _ _ _ h => h) (Or.inl ⟨by rfl, ?_⟩) ?_ ?_
        rotate_left
        ·
         intro w'
         go_simp
         with_reducible rfl
        rotate_left
        ·
         simp only [Act.put, List.setIfInBounds_toArray, List.set_cons_zero, List.set_cons_succ, i64_w, i32_w]
         rfl
        refine pure_ (i := 2) (N := some 80) (v := ?_) (a' := ?_) #[true, false, true, false, false, false, false, false, false, false, false, false, false, false, false] rfl rfl (any_of HT_.out (by kernel_rfl)) (fun _ _ _ h => h) (Or.inl ⟨by rfl, ?_⟩) ?_ ?_
        rotate_left
        ·
         intro w'
         go_simp
         with_reducible rfl
        rotate_left
        ·
         simp only [Act.put, List.setIfInBounds_toArray, List.set_cons_zero, List.set_cons_succ, i64_w, i32_w]
         rfl
        refine pure_ (i := 3) (N := some 81) (v := ?_) (a' := ?_) #[true, false, true, true, false, false, false, false, false, false, false, false, false, false, false] rfl rfl (any_of HT_.out (by kernel_rfl)) (fun _ _ _ h => h) (Or.inl ⟨by rfl, ?_⟩) ?_ ?_
        rotate_left
        ·
         intro w'
         go_simp
         with_reducible rfl
        rotate_left
        ·
         simp only [Act.put, List.setIfInBounds_toArray, List.set_cons_zero, List.set_cons_succ, i64_w, i32_w]
         rfl
        refine pure_ (i := 4) (N := some 82) (v := ?_) (a' := ?_) #[true, false, true, true, true, false, false, false, false, false, false, false, false, false, false] rfl rfl (any_of HT_.out (by kernel_rfl)) (fun _ _ _ h => h) (Or.inl ⟨by rfl, ?_⟩) ?_ ?_
        rotate_left
        ·
         intro w'
         go_simp
         with_reducible rfl
        rotate_left
        ·
         simp only [Act.put, List.setIfInBounds_toArray, List.set_cons_zero, List.set_cons_succ, i64_w, i32_w]
         rfl
        refine pure_ (i := 8) (N := some 86) (v := ?_) (a' := ?_) #[true, false, true, true, true, false, false, false, true, false, false, false, false, false, false] rfl rfl (any_of HT_.out (by kernel_rfl)) (fun _ _ _ h => h) (Or.inl ⟨by rfl, ?_⟩) ?_ ?_
        rotate_left
        ·
         intro w'
         go_simp
         with_reducible rfl
        rotate_left
        ·
         simp only [Act.put, List.setIfInBounds_toArray, List.set_cons_zero, List.set_cons_succ, i64_w, i32_w]
         rfl
        refine pure_ (i := 9) (N := some 87) (v := ?_) (a' := ?_) #[true, false, true, true, true, false, false, false, true, true, false, false, false, false, false] rfl rfl (any_of HT_.out (by kernel_rfl)) (fun _ _ _ h => h) (Or.inl ⟨by rfl, ?_⟩) ?_ ?_
        rotate_left
        ·
         intro w'
         go_simp
         with_reducible rfl
        rotate_left
        ·
         simp only [Act.put, List.setIfInBounds_toArray, List.set_cons_zero, List.set_cons_succ, i64_w, i32_w]
         rfl
        refine take_ (i := 1) (N := some 79) (v := ?_) (a' := ?_) #[true, true, true, true, true, false, false, false, true, true, false, false, false, false, false] rfl rfl (take_ofW HT_.out HW_.out (by kernel_rfl)) (fun _ _ _ h => h) (Or.inl ⟨by rfl, ?_⟩) hHeld ?_ ?_
        rotate_left
        ·
         rintro w' ⟨s0, s1, s2, s3, s4, s5, s6⟩
         go_simp
         with_reducible rfl
        rotate_left
        ·
         simp only [Act.put, List.setIfInBounds_toArray, List.set_cons_zero, List.set_cons_succ, i64_w, i32_w]
         rfl
        refine take_ (i := 5) (N := some 83) (v := ?_) (a' := ?_) #[true, true, true, true, true, true, false, false, true, true, false, false, false, false, false] rfl rfl (take_ofW HT_.out HW_.out (by kernel_rfl)) (fun _ _ _ h => h) (Or.inl ⟨by rfl, ?_⟩) hHeld ?_ ?_
        rotate_left
        ·
         rintro w' ⟨s0, s1, s2, s3, s4, s5, s6⟩
         go_simp
         with_reducible rfl
        rotate_left
        ·
         simp only [Act.put, List.setIfInBounds_toArray, List.set_cons_zero, List.set_cons_succ, i64_w, i32_w]
         rfl
        refine pure_ (i := 6) (N := some 84) (v := ?_) (a' := ?_) #[true, true, true, true, true, true, true, false, true, true, false, false, false, false, false] rfl rfl (any_of HT_.out (by kernel_rfl)) (fun _ _ _ h => h) (Or.inl ⟨by rfl, ?_⟩) ?_ ?_
        rotate_left
        ·
         intro w'
         go_simp
         with_reducible rfl
        rotate_left
        ·
         simp only [Act.put, List.setIfInBounds_toArray, List.set_cons_zero, List.set_cons_succ, i64_w, i32_w]
         rfl
        refine take_ (i := 7) (N := some 85) (v := ?_) (a' := ?_) #[true, true, true, true, true, true, true, true, true, true, false, false, false, false, false] rfl rfl (take_ofW HT_.out HW_.out (by kernel_rfl)) (fun _ _ _ h => h) (Or.inl ⟨by rfl, ?_⟩) hHeld ?_ ?_
        rotate_left
        ·
         rintro w' ⟨s0, s1, s2, s3, s4, s5, s6⟩
         go_simp
         with_reducible rfl
        rotate_left
        ·
         simp only [Act.put, List.setIfInBounds_toArray, List.set_cons_zero, List.set_cons_succ, i64_w, i32_w]
         rfl
        refine take_ (i := 10) (N := some 88) (v := ?_) (a' := ?_) #[true, true, true, true, true, true, true, true, true, true, true, false, false, false, false] rfl rfl (take_ofW HT_.out HW_.out (by kernel_rfl)) (fun _ _ _ h => h) (Or.inl ⟨by rfl, ?_⟩) hHeld ?_ ?_
        rotate_left
        ·
         rintro w' ⟨s0, s1, s2, s3, s4, s5, s6⟩
         go_simp
         with_reducible rfl
        rotate_left
        ·
         simp only [Act.put, List.setIfInBounds_toArray, List.set_cons_zero, List.set_cons_succ, i64_w, i32_w]
         rfl
        refine pure_ (i := 11) (N := some 89) (v := ?_) (a' := ?_) #[true, true, true, true, true, true, true, true, true, true, true, true, false, false, false] rfl rfl (any_of HT_.out (by kernel_rfl)) (fun _ _ _ h => h) (Or.inl ⟨by rfl, ?_⟩) ?_ ?_
        rotate_left
        ·
         intro w'
         go_simp
         with_reducible rfl
        rotate_left
        ·
         simp only [Act.put, List.setIfInBounds_toArray, List.set_cons_zero, List.set_cons_succ, i64_w, i32_w]
         rfl
        refine take_ (i := 12) (N := some 90) (v := ?_) (a' := ?_) #[true, true, true, true, true, true, true, true, true, true, true, true, true, false, false] rfl rfl (take_ofW HT_.out HW_.out (by kernel_rfl)) (fun _ _ _ h => h) (Or.inl ⟨by rfl, ?_⟩) hHeld ?_ ?_
        rotate_left
        ·
         rintro w' ⟨s0, s1, s2, s3, s4, s5, s6⟩
         go_simp
         with_reducible rfl
        rotate_left
        ·
         simp only [Act.put, List.setIfInBounds_toArray, List.set_cons_zero, List.set_cons_succ, i64_w, i32_w]
         rfl
        refine one_ (i := 13) (N := some 91) #[true, true, true, true, true, true, true, true, true, true, true, true, true, true, false] rfl rfl (one_of HT_.out (by kernel_rfl)) (by decide) (fun K hK => ?_)
        refine goes_ Try.func103 (by kernel_rfl) rfl #[.int .i64 ((rd_T75 l1 x13_1).f2), .int .i64 a0, .int .i64 (rd x10_1 ((rd_T75 l1 x13_1).f3)), .int .i64 (rd x10_1 ((rd_T75 l1 x13_1).f4))] (by rfl) rfl rfl (by (try simp only [List.map_toArray, List.map_cons, List.map_nil]); first | done | rfl | (simp only [List.length_drop, List.length_take]; rfl)) ?_
        with_reducible refine (spec_l01Test.calls ((rd_T75 l1 x13_1).f2) a0 (rd x10_1 ((rd_T75 l1 x13_1).f3)) (rd x10_1 ((rd_T75 l1 x13_1).f4)) true _ A50.out).mono ?_
        rintro e w' ⟨rfl, ⟨nd, rfl⟩⟩
        refine ⟨_, rfl, ?_⟩
        refine hK.out _ _ ⟨(blk_cell BK248.out 0).trans rfl, (blk_cell BK248.out 1).trans rfl, (blk_cell BK248.out 2).trans rfl, (blk_cell BK248.out 3).trans rfl, (blk_cell BK248.out 4).trans rfl, hHeld.2.2.2.2.2.1, hHeld.2.2.2.2.2.2⟩ (fun hHeld => ?_)
        clear hK K
        refine norm_ (a' := ?_) ?_ ?_
        rotate_left
        ·
         show Act.put _ (some 91) _ = _
         simp only [Act.put, List.setIfInBounds_toArray, List.set_cons_zero, List.set_cons_succ, i64_w, i32_w]
         rfl
        refine pure_ (i := 14) (N := some 92) (v := ?_) (a' := ?_) #[true, true, true, true, true, true, true, true, true, true, true, true, true, true, true] rfl rfl (any_of HT_.out (by kernel_rfl)) (fun _ _ _ h => h) (Or.inl ⟨by rfl, ?_⟩) ?_ ?_
        rotate_left
        ·
         intro w'
         go_simp
         with_reducible rfl
        rotate_left
        ·
         simp only [Act.put, List.setIfInBounds_toArray, List.set_cons_zero, List.set_cons_succ, i64_w, i32_w]
         rfl
        refine done_ (done_of HT_.out (by kernel_rfl)) ?_
        try go_wp2
        go_roundg k1
        case measure => have := HK1.out; omega
        case rel => exact ⟨(x10_1), (x11_1), (x12_1), (wrap64 (x13_1 + 1)), (by first | rfl | (simp; done) | (simp [*]; done)), H', ⟨by have := HK1.out; omega⟩, ⟨by first | exact rst HO_8.out | exact Kd.R_mono (rst HO_8.out) (by intro k_ hk_; simpa only [ob_eq] using hk_)⟩, ⟨by first | exact rst HO_10.out | exact Kd.R_mono (rst HO_10.out) (by intro k_ hk_; simpa only [ob_eq] using hk_)⟩, ⟨by first | exact rst HO_11.out | exact Kd.R_mono (rst HO_11.out) (by intro k_ hk_; simpa only [ob_eq] using hk_)⟩, ⟨by first | exact rst HO_12.out | exact Kd.R_mono (rst HO_12.out) (by intro k_ hk_; simpa only [ob_eq] using hk_)⟩, ⟨by repeat (first | (with_reducible first | exact HB.out | apply below_alloc | apply pw_below_drewN | apply below_drew1 | refine below_set ?_ GE248.out) | exact HB.out)⟩⟩
       ·
        replace c51 := Bool.eq_false_iff.mpr c51
        subst c51
        have H1 : (if x13_1 < (t234.length : Int) then (spec_l08Alone.l0 k1 a0 l1 t234 x10_1 x11_1 x12_1 (wrap64 ((rd t234 x13_1) + 1))) else (none)) = some (r1, r2) := by rw [if_neg (show ¬ (false = true) by decide)] at H; exact H
        clear H
        have H := H1
        clear H1
        replace H := ifp H; obtain ⟨c57, H⟩ := H
        have c57b0 : decide (x13_1 < (t234.length : Int)) = true := decide_eq_true c57
        clear c57; have H' := am H; clear H
        have p247 : 0 ≤ (x13_1 : Int) := od (by assumption)
        have q247 : x13_1 < (l1.length : Int) := od (by assumption)
        obtain ⟨ad247, e247, hx247_0, hx247_1, hx247_2, hx247_3, hx247_4⟩ := at_T75 HR1.out x13_1 p247 q247
        cases e247
        replace hx247_0 := bc HB hx247_0
        replace hx247_1 := bc HB hx247_1
        replace hx247_2 := bc HB hx247_2
        replace hx247_3 := bc HB hx247_3
        replace hx247_4 := bc HB hx247_4
        replace p247 := eq_true p247; replace q247 := eq_true q247
        try go_wp2_with (first | ((with_reducible refine gate_dst (N := 14) rfl ?_); refine box_event ?hg (N := 14) ?hd (cs := #[.int .i64 0, .int .i64 0, .int .i64 0, .int .i64 0, .int .i64 0]) (t := 75) ?hr ?_; (case hd => rfl); (case hg => rfl); (case hr => first | (go_simp; done) | (go_simp; rfl)); intro gb248 hg w58 hbox hb; have n0_ := am (Kd.R_below (rst HO_8.out) hb); have n1_ := am (Kd.R_below (rst HO_10.out) hb); have n2_ := am (Kd.R_below (rst HO_11.out) hb); have n3_ := am (Kd.R_below (rst HO_12.out) hb); have n4_ := am (below_step (bst HB) hb); have n5_ := am (hbox); have n6_ := am ((by rw [hg]; exact (below_size (bst HB)) : w.heap.size ≤ gb248)); have n7_ := am ((by rw [hg]; exact (below_size (bst HB)) : w.heap.size ≤ gb248)); clear HO_8; clear HO_10; clear HO_11; clear HO_12; clear HB; have HO_8 := n0_; have HO_10 := n1_; have HO_11 := n2_; have HO_12 := n3_; have HB := n4_; have BK248 := n5_; have GW248 := n6_; have GE248 := n7_; clear n0_ n1_ n2_ n3_ n4_ n5_ n6_ n7_; clear hb hbox hg; obtain ⟨hcz59_0, hcz59_1, hcz59_2, hcz59_3, hcz59_4, hfz59_0, hfz59_1, hfz59_2, hfz59_3, hfz59_4⟩ := bx5 BK248.out))
        generalize hwb_ : (((((w58.setCell ⟨gb248, 0, none⟩ (.int .i64 ((rd_T75 l1 x13_1).f0))).setCell ⟨gb248, 1, none⟩ (.int .i64 ((rd_T75 l1 x13_1).f1))).setCell ⟨gb248, 2, none⟩ (.int .i64 ((rd_T75 l1 x13_1).f2))).setCell ⟨gb248, 3, none⟩ (.int .i64 ((rd_T75 l1 x13_1).f3))).setCell ⟨gb248, 4, none⟩ (.int .i64 ((rd_T75 l1 x13_1).f4))) = w60
        have n0_ := am (R_b5 hwb_.symm HO_8.out BK248.out (by decide))
        have n1_ := am (R_b5 hwb_.symm HO_10.out BK248.out (by decide))
        have n2_ := am (R_b5 hwb_.symm HO_11.out BK248.out (by decide))
        have n3_ := am (R_b5 hwb_.symm HO_12.out BK248.out (by decide))
        have n4_ := am (blk_b5 hwb_.symm BK248.out)
        have n5_ := am (below_b5 hwb_.symm HB.out GE248.out)
        (try clear HO_8)
        (try clear HO_10)
        (try clear HO_11)
        (try clear HO_12)
        (try clear BK248)
        (try clear HB)
        clear hwb_
        have HO_8 := n0_
        have HO_10 := n1_
        have HO_11 := n2_
        have HO_12 := n3_
        have BK248 := n4_
        have HB := n5_
        clear n0_ n1_ n2_ n3_ n4_ n5_
        have n0_ := am (Kd.R_drew HO_8.out)
        have n1_ := am (Kd.R_drew HO_10.out)
        have n2_ := am (Kd.R_drew HO_11.out)
        have n3_ := am (Kd.R_drew HO_12.out)
        have n4_ := am (blk_drew BK248.out)
        have n5_ := am (below_drew1 HB.out)
        clear HO_8; clear HO_10; clear HO_11; clear HO_12; clear BK248; clear HB
        have HO_8 := n0_
        have HO_10 := n1_
        have HO_11 := n2_
        have HO_12 := n3_
        have BK248 := n4_
        have HB := n5_
        clear n0_ n1_ n2_ n3_ n4_ n5_
        obtain ⟨Ao62, co62, eo62⟩ := Kd.R_slice HO_10.out
        (first | subst eo62 | (injection eo62 with f1_ f2_ f3_; have f4_ := f1_.symm; have f5_ := f3_.symm; clear f1_ f2_ f3_; subst f4_; subst f5_))
        have p260 : 0 ≤ (((rd_T75 l1 x13_1).f3) : Int) := od (by assumption)
        have q260 : ((rd_T75 l1 x13_1).f3) < (x10_1.length : Int) := od (by assumption)
        obtain ⟨ad260, e260, hx260_0⟩ := Kd.at_int (Kd.R_reads' HO_10.out).2.2 ((rd_T75 l1 x13_1).f3) p260 q260
        cases e260
        replace p260 := eq_true p260; replace q260 := eq_true q260
        have p261 : 0 ≤ (((rd_T75 l1 x13_1).f4) : Int) := od (by assumption)
        have q261 : ((rd_T75 l1 x13_1).f4) < (x10_1.length : Int) := od (by assumption)
        obtain ⟨ad261, e261, hx261_0⟩ := Kd.at_int (Kd.R_reads' HO_10.out).2.2 ((rd_T75 l1 x13_1).f4) p261 q261
        obtain rfl : ad260 = ad261 := (by injection e261)
        replace p261 := eq_true p261; replace q261 := eq_true q261
        refine start_ (n := 15) (S := fun w' => w'.cell? ⟨gb248, 0, none⟩ = some (.int .i64 ((rd_T75 l1 x13_1).f0)) ∧ w'.cell? ⟨gb248, 1, none⟩ = some (.int .i64 ((rd_T75 l1 x13_1).f1)) ∧ w'.cell? ⟨gb248, 2, none⟩ = some (.int .i64 ((rd_T75 l1 x13_1).f2)) ∧ w'.cell? ⟨gb248, 3, none⟩ = some (.int .i64 ((rd_T75 l1 x13_1).f3)) ∧ w'.cell? ⟨gb248, 4, none⟩ = some (.int .i64 ((rd_T75 l1 x13_1).f4)) ∧ w'.cell? (ad260.add (((rd_T75 l1 x13_1).f3)).toNat) = some (.int .i64 (rd x10_1 ((rd_T75 l1 x13_1).f3))) ∧ w'.cell? (ad260.add (((rd_T75 l1 x13_1).f4)).toNat) = some (.int .i64 (rd x10_1 ((rd_T75 l1 x13_1).f4)))) (ds := []) #[false, false, false, false, false, false, false, false, false, false, false, false, false, false, false] (by kernel_rfl) rfl rfl ⟨(blk_cell BK248.out 0).trans rfl, (blk_cell BK248.out 1).trans rfl, (blk_cell BK248.out 2).trans rfl, (blk_cell BK248.out 3).trans rfl, (blk_cell BK248.out 4).trans rfl, hx260_0, hx261_0⟩ (fun hHeld => ?_); refine with_tabW spec_l08Alone.tab17 spec_l08Alone.bits17 (fun HT_ HW_ => ?_)
        generalize w60.drew = w61 at HO_8 HO_10 HO_11 HO_12 BK248 HB hx260_0 hx261_0 hHeld ⊢
        refine pure_ (i := 0) (N := some 78) (v := ?_) (a' := ?_) #[true, false, false, false, false, false, false, false, false, false, false, false, false, false, false] rfl rfl (any_of HT_.out (by kernel_rfl)) (fun _ _ _ h => h) (Or.inl ⟨by rfl, ?_⟩) ?_ ?_
        rotate_left
        ·
         intro w'
         go_simp
         with_reducible rfl
        rotate_left
        ·
         simp only [Act.put, List.setIfInBounds_toArray, List.set_cons_zero, List.set_cons_succ, i64_w, i32_w]
         rfl
        refine pure_ (i := 2) (N := some 80) (v := ?_) (a' := ?_) #[true, false, true, false, false, false, false, false, false, false, false, false, false, false, false] rfl rfl (any_of HT_.out (by kernel_rfl)) (fun _ _ _ h => h) (Or.inl ⟨by rfl, ?_⟩) ?_ ?_
        rotate_left
        ·
         intro w'
         go_simp
         with_reducible rfl
        rotate_left
        ·
         simp only [Act.put, List.setIfInBounds_toArray, List.set_cons_zero, List.set_cons_succ, i64_w, i32_w]
         rfl
        refine pure_ (i := 3) (N := some 81) (v := ?_) (a' := ?_) #[true, false, true, true, false, false, false, false, false, false, false, false, false, false, false] rfl rfl (any_of HT_.out (by kernel_rfl)) (fun _ _ _ h => h) (Or.inl ⟨by rfl, ?_⟩) ?_ ?_
        rotate_left
        ·
         intro w'
         go_simp
         with_reducible rfl
        rotate_left
        ·
         simp only [Act.put, List.setIfInBounds_toArray, List.set_cons_zero, List.set_cons_succ, i64_w, i32_w]
         rfl
        refine pure_ (i := 4) (N := some 82) (v := ?_) (a' := ?_) #[true, false, true, true, true, false, false, false, false, false, false, false, false, false, false] rfl rfl (any_of HT_.out (by kernel_rfl)) (fun _ _ _ h => h) (Or.inl ⟨by rfl, ?_⟩) ?_ ?_
        rotate_left
        ·
         intro w'
         go_simp
         with_reducible rfl
        rotate_left
        ·
         simp only [Act.put, List.setIfInBounds_toArray, List.set_cons_zero, List.set_cons_succ, i64_w, i32_w]
         rfl
        refine pure_ (i := 8) (N := some 86) (v := ?_) (a' := ?_) #[true, false, true, true, true, false, false, false, true, false, false, false, false, false, false] rfl rfl (any_of HT_.out (by kernel_rfl)) (fun _ _ _ h => h) (Or.inl ⟨by rfl, ?_⟩) ?_ ?_
        rotate_left
        ·
         intro w'
         go_simp
         with_reducible rfl
        rotate_left
        ·
         simp only [Act.put, List.setIfInBounds_toArray, List.set_cons_zero, List.set_cons_succ, i64_w, i32_w]
         rfl
        refine pure_ (i := 9) (N := some 87) (v := ?_) (a' := ?_) #[true, false, true, true, true, false, false, false, true, true, false, false, false, false, false] rfl rfl (any_of HT_.out (by kernel_rfl)) (fun _ _ _ h => h) (Or.inl ⟨by rfl, ?_⟩) ?_ ?_
        rotate_left
        ·
         intro w'
         go_simp
         with_reducible rfl
        rotate_left
        ·
         simp only [Act.put, List.setIfInBounds_toArray, List.set_cons_zero, List.set_cons_succ, i64_w, i32_w]
         rfl
        refine take_ (i := 1) (N := some 79) (v := ?_) (a' := ?_) #[true, true, true, true, true, false, false, false, true, true, false, false, false, false, false] rfl rfl (take_ofW HT_.out HW_.out (by kernel_rfl)) (fun _ _ _ h => h) (Or.inl ⟨by rfl, ?_⟩) hHeld ?_ ?_
        rotate_left
        ·
         rintro w' ⟨s0, s1, s2, s3, s4, s5, s6⟩
         go_simp
         with_reducible rfl
        rotate_left
        ·
         simp only [Act.put, List.setIfInBounds_toArray, List.set_cons_zero, List.set_cons_succ, i64_w, i32_w]
         rfl
        refine take_ (i := 5) (N := some 83) (v := ?_) (a' := ?_) #[true, true, true, true, true, true, false, false, true, true, false, false, false, false, false] rfl rfl (take_ofW HT_.out HW_.out (by kernel_rfl)) (fun _ _ _ h => h) (Or.inl ⟨by rfl, ?_⟩) hHeld ?_ ?_
        rotate_left
        ·
         rintro w' ⟨s0, s1, s2, s3, s4, s5, s6⟩
         go_simp
         with_reducible rfl
        rotate_left
        ·
         simp only [Act.put, List.setIfInBounds_toArray, List.set_cons_zero, List.set_cons_succ, i64_w, i32_w]
         rfl
        refine pure_ (i := 6) (N := some 84) (v := ?_) (a' := ?_) #[true, true, true, true, true, true, true, false, true, true, false, false, false, false, false] rfl rfl (any_of HT_.out (by kernel_rfl)) (fun _ _ _ h => h) (Or.inl ⟨by rfl, ?_⟩) ?_ ?_
        rotate_left
        ·
         intro w'
         go_simp
         with_reducible rfl
        rotate_left
        ·
         simp only [Act.put, List.setIfInBounds_toArray, List.set_cons_zero, List.set_cons_succ, i64_w, i32_w]
         rfl
        refine take_ (i := 7) (N := some 85) (v := ?_) (a' := ?_) #[true, true, true, true, true, true, true, true, true, true, false, false, false, false, false] rfl rfl (take_ofW HT_.out HW_.out (by kernel_rfl)) (fun _ _ _ h => h) (Or.inl ⟨by rfl, ?_⟩) hHeld ?_ ?_
        rotate_left
        ·
         rintro w' ⟨s0, s1, s2, s3, s4, s5, s6⟩
         go_simp
         with_reducible rfl
        rotate_left
        ·
         simp only [Act.put, List.setIfInBounds_toArray, List.set_cons_zero, List.set_cons_succ, i64_w, i32_w]
         rfl
        refine take_ (i := 10) (N := some 88) (v := ?_) (a' := ?_) #[true, true, true, true, true, true, true, true, true, true, true, false, false, false, false] rfl rfl (take_ofW HT_.out HW_.out (by kernel_rfl)) (fun _ _ _ h => h) (Or.inl ⟨by rfl, ?_⟩) hHeld ?_ ?_
        rotate_left
        ·
         rintro w' ⟨s0, s1, s2, s3, s4, s5, s6⟩
         go_simp
         with_reducible rfl
        rotate_left
        ·
         simp only [Act.put, List.setIfInBounds_toArray, List.set_cons_zero, List.set_cons_succ, i64_w, i32_w]
         rfl
        refine pure_ (i := 11) (N := some 89) (v := ?_) (a' := ?_) #[true, true, true, true, true, true, true, true, true, true, true, true, false, false, false] rfl rfl (any_of HT_.out (by kernel_rfl)) (fun _ _ _ h => h) (Or.inl ⟨by rfl, ?_⟩) ?_ ?_
        rotate_left
        ·
         intro w'
         go_simp
         with_reducible rfl
        rotate_left
        ·
         simp only [Act.put, List.setIfInBounds_toArray, List.set_cons_zero, List.set_cons_succ, i64_w, i32_w]
         rfl
        refine take_ (i := 12) (N := some 90) (v := ?_) (a' := ?_) #[true, true, true, true, true, true, true, true, true, true, true, true, true, false, false] rfl rfl (take_ofW HT_.out HW_.out (by kernel_rfl)) (fun _ _ _ h => h) (Or.inl ⟨by rfl, ?_⟩) hHeld ?_ ?_
        rotate_left
        ·
         rintro w' ⟨s0, s1, s2, s3, s4, s5, s6⟩
         go_simp
         with_reducible rfl
        rotate_left
        ·
         simp only [Act.put, List.setIfInBounds_toArray, List.set_cons_zero, List.set_cons_succ, i64_w, i32_w]
         rfl
        refine one_ (i := 13) (N := some 91) #[true, true, true, true, true, true, true, true, true, true, true, true, true, true, false] rfl rfl (one_of HT_.out (by kernel_rfl)) (by decide) (fun K hK => ?_)
        refine goes_ Try.func103 (by kernel_rfl) rfl #[.int .i64 ((rd_T75 l1 x13_1).f2), .int .i64 a0, .int .i64 (rd x10_1 ((rd_T75 l1 x13_1).f3)), .int .i64 (rd x10_1 ((rd_T75 l1 x13_1).f4))] (by rfl) rfl rfl (by (try simp only [List.map_toArray, List.map_cons, List.map_nil]); first | done | rfl | (simp only [List.length_drop, List.length_take]; rfl)) ?_
        with_reducible refine (spec_l01Test.calls ((rd_T75 l1 x13_1).f2) a0 (rd x10_1 ((rd_T75 l1 x13_1).f3)) (rd x10_1 ((rd_T75 l1 x13_1).f4)) false _ A50.out).mono ?_
        rintro e w' ⟨rfl, ⟨nd, rfl⟩⟩
        refine ⟨_, rfl, ?_⟩
        refine hK.out _ _ ⟨(blk_cell BK248.out 0).trans rfl, (blk_cell BK248.out 1).trans rfl, (blk_cell BK248.out 2).trans rfl, (blk_cell BK248.out 3).trans rfl, (blk_cell BK248.out 4).trans rfl, hHeld.2.2.2.2.2.1, hHeld.2.2.2.2.2.2⟩ (fun hHeld => ?_)
        clear hK K
        refine norm_ (a' := ?_) ?_ ?_
        rotate_left
        ·
         show Act.put _ (some 91) _ = _
         simp only [Act.put, List.setIfInBounds_toArray, List.set_cons_zero, List.set_cons_succ, i64_w, i32_w]
         rfl
        refine pure_ (i := 14) (N := some 92) (v := ?_) (a' := ?_) #[true, true, true, true, true, true, true, true, true, true, true, true, true, true, true] rfl rfl (any_of HT_.out (by kernel_rfl)) (fun _ _ _ h => h) (Or.inl ⟨by rfl, ?_⟩) ?_ ?_
        rotate_left
        ·
         intro w'
         go_simp
         with_reducible rfl
        rotate_left
        ·
         simp only [Act.put, List.setIfInBounds_toArray, List.set_cons_zero, List.set_cons_succ, i64_w, i32_w]
         rfl
        refine done_ (done_of HT_.out (by kernel_rfl)) ?_
        obtain ⟨Ao63, co63, eo63⟩ := Kd.R_slice HO_8.out
        subst eo63
        have p263 : 0 ≤ (x13_1 : Int) := od (by assumption)
        have q263 : x13_1 < (t234.length : Int) := od (by assumption)
        obtain ⟨ad263, e263, hx263_0⟩ := Kd.at_int (Kd.R_reads' HO_8.out).2.2 x13_1 p263 q263
        cases e263
        replace p263 := eq_true p263; replace q263 := eq_true q263
        try go_wp2
        go_roundg k1
        case measure => have := HK1.out; omega
        case rel => exact ⟨(x10_1), (x11_1), (x12_1), (wrap64 ((rd t234 x13_1) + 1)), (by first | rfl | (simp; done) | (simp [*]; done)), H', ⟨by have := HK1.out; omega⟩, ⟨by first | exact rst HO_8.out | exact Kd.R_mono (rst HO_8.out) (by intro k_ hk_; simpa only [ob_eq] using hk_)⟩, ⟨by first | exact rst HO_10.out | exact Kd.R_mono (rst HO_10.out) (by intro k_ hk_; simpa only [ob_eq] using hk_)⟩, ⟨by first | exact rst HO_11.out | exact Kd.R_mono (rst HO_11.out) (by intro k_ hk_; simpa only [ob_eq] using hk_)⟩, ⟨by first | exact rst HO_12.out | exact Kd.R_mono (rst HO_12.out) (by intro k_ hk_; simpa only [ob_eq] using hk_)⟩, ⟨by repeat (first | (with_reducible first | exact HB.out | apply below_alloc | apply pw_below_drewN | apply below_drew1 | refine below_set ?_ GE248.out) | exact HB.out)⟩⟩
      ·
       rw [if_neg c45] at H
       have c45b0 : (((rd_T75 l1 x13_1).f0) == 2) = false := beq_eq_false_iff_ne.mpr c45
       have c45b1 : (((rd_T75 l1 x13_1).f0) != 2) = true := bne_iff_ne.mpr c45
       by_cases c64 : ((rd_T75 l1 x13_1).f0) = 3
       ·
        rw [if_pos c64] at H
        have c64b0 : (((rd_T75 l1 x13_1).f0) == 3) = true := beq_iff_eq.mpr c64
        have c64b1 : (((rd_T75 l1 x13_1).f0) != 3) = false := bne_eq_false_iff_eq.mpr c64
        clear c64
        replace H := ifp H; obtain ⟨c65, H⟩ := H
        have c65b0 : decide (x13_1 < (t234.length : Int)) = true := decide_eq_true c65
        clear c65; have H' := am H; clear H
        have p247 : 0 ≤ (x13_1 : Int) := od (by assumption)
        have q247 : x13_1 < (l1.length : Int) := od (by assumption)
        obtain ⟨ad247, e247, hx247_0, hx247_1, hx247_2, hx247_3, hx247_4⟩ := at_T75 HR1.out x13_1 p247 q247
        cases e247
        replace hx247_0 := bc HB hx247_0
        replace hx247_1 := bc HB hx247_1
        replace hx247_2 := bc HB hx247_2
        replace hx247_3 := bc HB hx247_3
        replace hx247_4 := bc HB hx247_4
        replace p247 := eq_true p247; replace q247 := eq_true q247
        go_wp2_with (first | ((with_reducible refine gate_dst (N := 14) rfl ?_); refine box_event ?hg (N := 14) ?hd (cs := #[.int .i64 0, .int .i64 0, .int .i64 0, .int .i64 0, .int .i64 0]) (t := 75) ?hr ?_; (case hd => rfl); (case hg => rfl); (case hr => first | (go_simp; done) | (go_simp; rfl)); intro gb248 hg w66 hbox hb; have n0_ := am (Kd.R_below (rst HO_8.out) hb); have n1_ := am (Kd.R_below (rst HO_10.out) hb); have n2_ := am (Kd.R_below (rst HO_11.out) hb); have n3_ := am (Kd.R_below (rst HO_12.out) hb); have n4_ := am (below_step (bst HB) hb); have n5_ := am (hbox); have n6_ := am ((by rw [hg]; exact (below_size (bst HB)) : w.heap.size ≤ gb248)); have n7_ := am ((by rw [hg]; exact (below_size (bst HB)) : w.heap.size ≤ gb248)); clear HO_8; clear HO_10; clear HO_11; clear HO_12; clear HB; have HO_8 := n0_; have HO_10 := n1_; have HO_11 := n2_; have HO_12 := n3_; have HB := n4_; have BK248 := n5_; have GW248 := n6_; have GE248 := n7_; clear n0_ n1_ n2_ n3_ n4_ n5_ n6_ n7_; clear hb hbox hg; obtain ⟨hcz67_0, hcz67_1, hcz67_2, hcz67_3, hcz67_4, hfz67_0, hfz67_1, hfz67_2, hfz67_3, hfz67_4⟩ := bx5 BK248.out; obtain ⟨Ao68, co68, eo68⟩ := Kd.R_slice HO_8.out; subst eo68; have p264 : 0 ≤ (x13_1 : Int) := od (by assumption); have q264 : x13_1 < (t234.length : Int) := od (by assumption); obtain ⟨ad264, e264, hx264_0⟩ := Kd.at_int (Kd.R_reads' HO_8.out).2.2 x13_1 p264 q264; cases e264; have hn264_0 : ad264.block ≠ gb248 := Kd.own_blk (Kd.R_ne HO_8.out BK248.out (by decide)); have hn264_1 : ad264.block ≠ gb248 := Kd.own_blk (Kd.R_ne HO_8.out BK248.out (by decide)); have hn264_2 : ad264.block ≠ gb248 := Kd.own_blk (Kd.R_ne HO_8.out BK248.out (by decide)); have hn264_3 : ad264.block ≠ gb248 := Kd.own_blk (Kd.R_ne HO_8.out BK248.out (by decide)); have hn264_4 : ad264.block ≠ gb248 := Kd.own_blk (Kd.R_ne HO_8.out BK248.out (by decide)); replace hx264_0 := (cell_far (p := ⟨gb248, 0, none⟩) (by first | (rw [add_block]; exact hn264_0) | (show (Addr.add _ _).block ≠ _; rw [add_block]; exact hn264_0) | exact hn264_0) (.int .i64 ((rd_T75 l1 x13_1).f0))).trans hx264_0; replace hx264_0 := (cell_far (p := ⟨gb248, 1, none⟩) (by first | (rw [add_block]; exact hn264_1) | (show (Addr.add _ _).block ≠ _; rw [add_block]; exact hn264_1) | exact hn264_1) (.int .i64 ((rd_T75 l1 x13_1).f1))).trans hx264_0; replace hx264_0 := (cell_far (p := ⟨gb248, 2, none⟩) (by first | (rw [add_block]; exact hn264_2) | (show (Addr.add _ _).block ≠ _; rw [add_block]; exact hn264_2) | exact hn264_2) (.int .i64 ((rd_T75 l1 x13_1).f2))).trans hx264_0; replace hx264_0 := (cell_far (p := ⟨gb248, 3, none⟩) (by first | (rw [add_block]; exact hn264_3) | (show (Addr.add _ _).block ≠ _; rw [add_block]; exact hn264_3) | exact hn264_3) (.int .i64 ((rd_T75 l1 x13_1).f3))).trans hx264_0; replace hx264_0 := (cell_far (p := ⟨gb248, 4, none⟩) (by first | (rw [add_block]; exact hn264_4) | (show (Addr.add _ _).block ≠ _; rw [add_block]; exact hn264_4) | exact hn264_4) (.int .i64 ((rd_T75 l1 x13_1).f4))).trans hx264_0; clear hn264_0; clear hn264_1; clear hn264_2; clear hn264_3; clear hn264_4; replace p264 := eq_true p264; replace q264 := eq_true q264))
        go_roundg k1
        case measure => have := HK1.out; omega
        case rel => exact ⟨(x10_1), (x11_1), (x12_1), (wrap64 ((rd t234 x13_1) + 1)), (by first | rfl | (simp; done) | (simp [*]; done)), H', ⟨by have := HK1.out; omega⟩, ⟨by (with_reducible repeat (first | apply Kd.R_alloc | apply Kd.R_drewN | apply Kd.R_drew)); exact Kd.R_mono (Kd.R_far (p := ⟨gb248, 4, none⟩) (Kd.R_far (p := ⟨gb248, 3, none⟩) (Kd.R_far (p := ⟨gb248, 2, none⟩) (Kd.R_far (p := ⟨gb248, 1, none⟩) (Kd.R_far (p := ⟨gb248, 0, none⟩) (Kd.R_types HO_8.out BK248.out (by decide)) (fun _ hk => hk.2) (.int .i64 ((rd_T75 l1 x13_1).f0))) (fun _ hk => hk.2) (.int .i64 ((rd_T75 l1 x13_1).f1))) (fun _ hk => hk.2) (.int .i64 ((rd_T75 l1 x13_1).f2))) (fun _ hk => hk.2) (.int .i64 ((rd_T75 l1 x13_1).f3))) (fun _ hk => hk.2) (.int .i64 ((rd_T75 l1 x13_1).f4))) (fun _ hk => ⟨hk.1.1, ⟨hk.1.2.1, hk.1.2.2⟩⟩)⟩, ⟨by (with_reducible repeat (first | apply Kd.R_alloc | apply Kd.R_drewN | apply Kd.R_drew)); exact Kd.R_mono (Kd.R_far (p := ⟨gb248, 4, none⟩) (Kd.R_far (p := ⟨gb248, 3, none⟩) (Kd.R_far (p := ⟨gb248, 2, none⟩) (Kd.R_far (p := ⟨gb248, 1, none⟩) (Kd.R_far (p := ⟨gb248, 0, none⟩) (Kd.R_types HO_10.out BK248.out (by decide)) (fun _ hk => hk.2) (.int .i64 ((rd_T75 l1 x13_1).f0))) (fun _ hk => hk.2) (.int .i64 ((rd_T75 l1 x13_1).f1))) (fun _ hk => hk.2) (.int .i64 ((rd_T75 l1 x13_1).f2))) (fun _ hk => hk.2) (.int .i64 ((rd_T75 l1 x13_1).f3))) (fun _ hk => hk.2) (.int .i64 ((rd_T75 l1 x13_1).f4))) (fun _ hk => ⟨hk.1.1, ⟨hk.1.2.1, hk.1.2.2⟩⟩)⟩, ⟨by (with_reducible repeat (first | apply Kd.R_alloc | apply Kd.R_drewN | apply Kd.R_drew)); exact Kd.R_mono (Kd.R_far (p := ⟨gb248, 4, none⟩) (Kd.R_far (p := ⟨gb248, 3, none⟩) (Kd.R_far (p := ⟨gb248, 2, none⟩) (Kd.R_far (p := ⟨gb248, 1, none⟩) (Kd.R_far (p := ⟨gb248, 0, none⟩) (Kd.R_types HO_11.out BK248.out (by decide)) (fun _ hk => hk.2) (.int .i64 ((rd_T75 l1 x13_1).f0))) (fun _ hk => hk.2) (.int .i64 ((rd_T75 l1 x13_1).f1))) (fun _ hk => hk.2) (.int .i64 ((rd_T75 l1 x13_1).f2))) (fun _ hk => hk.2) (.int .i64 ((rd_T75 l1 x13_1).f3))) (fun _ hk => hk.2) (.int .i64 ((rd_T75 l1 x13_1).f4))) (fun _ hk => ⟨hk.1.1, ⟨hk.1.2.1, hk.1.2.2⟩⟩)⟩, ⟨by (with_reducible repeat (first | apply Kd.R_alloc | apply Kd.R_drewN | apply Kd.R_drew)); exact Kd.R_mono (Kd.R_far (p := ⟨gb248, 4, none⟩) (Kd.R_far (p := ⟨gb248, 3, none⟩) (Kd.R_far (p := ⟨gb248, 2, none⟩) (Kd.R_far (p := ⟨gb248, 1, none⟩) (Kd.R_far (p := ⟨gb248, 0, none⟩) (Kd.R_types HO_12.out BK248.out (by decide)) (fun _ hk => hk.2) (.int .i64 ((rd_T75 l1 x13_1).f0))) (fun _ hk => hk.2) (.int .i64 ((rd_T75 l1 x13_1).f1))) (fun _ hk => hk.2) (.int .i64 ((rd_T75 l1 x13_1).f2))) (fun _ hk => hk.2) (.int .i64 ((rd_T75 l1 x13_1).f3))) (fun _ hk => hk.2) (.int .i64 ((rd_T75 l1 x13_1).f4))) (fun _ hk => ⟨hk.1.1, ⟨hk.1.2.1, hk.1.2.2⟩⟩)⟩, ⟨by repeat (first | (with_reducible first | exact HB.out | apply below_alloc | apply pw_below_drewN | apply below_drew1 | refine below_set ?_ GE248.out) | exact HB.out)⟩⟩
       ·
        rw [if_neg c64] at H
        have c64b0 : (((rd_T75 l1 x13_1).f0) == 3) = false := beq_eq_false_iff_ne.mpr c64
        have c64b1 : (((rd_T75 l1 x13_1).f0) != 3) = true := bne_iff_ne.mpr c64
        by_cases c69 : ((rd_T75 l1 x13_1).f0) = 5
        ·
         rw [if_pos c69] at H
         have c69b0 : (((rd_T75 l1 x13_1).f0) == 5) = true := beq_iff_eq.mpr c69
         have c69b1 : (((rd_T75 l1 x13_1).f0) != 5) = false := bne_eq_false_iff_eq.mpr c69
         clear c69
         replace H := ifp H; obtain ⟨c70, H⟩ := H
         have c70b0 : decide (x13_1 < (x12_1.length : Int)) = true := decide_eq_true c70
         clear c70
         obtain ⟨y265, hy265⟩ : ∃ y_ : List Int, y_ = (x12_1.set (x13_1 : Int).toNat 1) := ⟨_, rfl⟩
         replace H : (spec_l08Alone.l0 k1 a0 l1 t234 x10_1 x11_1 y265 (wrap64 (x13_1 + 1))) = some (r1, r2) := by first | (rw [hy265]; with_reducible exact H) | (have H2_ := bsm H; rw [hy265]; with_reducible exact H2_) | (have H2_ := bsm H; exact H2_) | (rw [hy265]; exact H) | exact H
         have Ny265 := am hy265; clear hy265; have H' := am H; clear H
         have p247 : 0 ≤ (x13_1 : Int) := od (by assumption)
         have q247 : x13_1 < (l1.length : Int) := od (by assumption)
         obtain ⟨ad247, e247, hx247_0, hx247_1, hx247_2, hx247_3, hx247_4⟩ := at_T75 HR1.out x13_1 p247 q247
         cases e247
         replace hx247_0 := bc HB hx247_0
         replace hx247_1 := bc HB hx247_1
         replace hx247_2 := bc HB hx247_2
         replace hx247_3 := bc HB hx247_3
         replace hx247_4 := bc HB hx247_4
         replace p247 := eq_true p247; replace q247 := eq_true q247
         go_wp2_with (first | ((with_reducible refine gate_dst (N := 14) rfl ?_); refine box_event ?hg (N := 14) ?hd (cs := #[.int .i64 0, .int .i64 0, .int .i64 0, .int .i64 0, .int .i64 0]) (t := 75) ?hr ?_; (case hd => rfl); (case hg => rfl); (case hr => first | (go_simp; done) | (go_simp; rfl)); intro gb248 hg w72 hbox hb; have n0_ := am (Kd.R_below (rst HO_8.out) hb); have n1_ := am (Kd.R_below (rst HO_10.out) hb); have n2_ := am (Kd.R_below (rst HO_11.out) hb); have n3_ := am (Kd.R_below (rst HO_12.out) hb); have n4_ := am (below_step (bst HB) hb); have n5_ := am (hbox); have n6_ := am ((by rw [hg]; exact (below_size (bst HB)) : w.heap.size ≤ gb248)); have n7_ := am ((by rw [hg]; exact (below_size (bst HB)) : w.heap.size ≤ gb248)); clear HO_8; clear HO_10; clear HO_11; clear HO_12; clear HB; have HO_8 := n0_; have HO_10 := n1_; have HO_11 := n2_; have HO_12 := n3_; have HB := n4_; have BK248 := n5_; have GW248 := n6_; have GE248 := n7_; clear n0_ n1_ n2_ n3_ n4_ n5_ n6_ n7_; clear hb hbox hg; obtain ⟨hcz73_0, hcz73_1, hcz73_2, hcz73_3, hcz73_4, hfz73_0, hfz73_1, hfz73_2, hfz73_3, hfz73_4⟩ := bx5 BK248.out) | ((with_reducible refine gate_store (t := 75) (p := 14) rfl ?_); refine store_event (t := 75) (p := 14) (v := ?vo_w74) (w1 := (((((w72.setCell ⟨gb248, 0, none⟩ (.int .i64 ((rd_T75 l1 x13_1).f0))).setCell ⟨gb248, 1, none⟩ (.int .i64 ((rd_T75 l1 x13_1).f1))).setCell ⟨gb248, 2, none⟩ (.int .i64 ((rd_T75 l1 x13_1).f2))).setCell ⟨gb248, 3, none⟩ (.int .i64 ((rd_T75 l1 x13_1).f3))).setCell ⟨gb248, 4, none⟩ (.int .i64 ((rd_T75 l1 x13_1).f4)))) ?hg ?ho ?hn ?hr ?_; (case ho => rfl); (case hg => rfl); (case hn => rfl); (case hr => first | (go_simp; done) | (go_simp; rfl)); intro w74 hw; have n0_ := am (R_b5 hw HO_8.out BK248.out (by decide)); have n1_ := am (R_b5 hw HO_10.out BK248.out (by decide)); have n2_ := am (R_b5 hw HO_11.out BK248.out (by decide)); have n3_ := am (R_b5 hw HO_12.out BK248.out (by decide)); have n4_ := am (blk_b5 hw BK248.out); have n5_ := am (below_b5 hw HB.out GE248.out); clear hw; clear HO_8; clear HO_10; clear HO_11; clear HO_12; clear BK248; clear HB; have HO_8 := n0_; have HO_10 := n1_; have HO_11 := n2_; have HO_12 := n3_; have BK248 := n4_; have HB := n5_; clear n0_ n1_ n2_ n3_ n4_ n5_; obtain ⟨hcz75_0, hcz75_1, hcz75_2, hcz75_3, hcz75_4, hfz75_0, hfz75_1, hfz75_2, hfz75_3, hfz75_4⟩ := bx5 BK248.out; have p71 : 0 ≤ (x13_1 : Int) := od (by assumption); have q71 : (x13_1 : Int) < ((x12_1.length : Int) : Int) := od (by assumption); obtain ⟨go71, co71, eo71, gb71, gl71, cl71, HG71⟩ := Kd.R_form HO_12.out (by omega); (first | cases eo71 | (injection eo71 with ea_ en_ ec_; (first | subst ea_ | (injection ea_ with ea_; subst ea_)); subst ec_; clear en_)); have GB71 := am gb71; have GG71 := am HG71; clear gb71 gl71 HG71; obtain ⟨hx71_0, hf71_0⟩ := Kd.R_celln 0 HO_12.out (x13_1 : Int) p71 q71; replace p71 := eq_true p71; replace q71 := eq_true q71; obtain ⟨hy76_, hz76_⟩ := Kd.R_celln 0 HO_12.out (x13_1 : Int) (od (by assumption)) (od (by assumption)); have HP76 := Kd.R_putg HO_12.out (x13_1 : Int) 1) | ((with_reducible refine gate_store (t := 2) (p := 107) rfl ?_); refine store_event (t := 2) (p := 107) (v := ?vo_w77) (w1 := (w74.setCell ⟨go71, (x13_1 : Int).toNat, none⟩ (.int .i64 1))) ?hg ?ho ?hn ?hr ?_; (case ho => rfl); (case hg => rfl); (case hn => rfl); (case hr => first | (go_simp; done) | (go_simp; rfl)); intro w77 hw; have hg : w74.grownBy w77 (some go71) := (by rw [hw]; exact HP76.2); have hp_ : Kd.R (Kd.int .i64) 2 w77 w.heap.size (fun k_ => some k_ ≠ (v236 : Value).ownBlock ∧ some k_ ≠ (v239 : Value).ownBlock ∧ some k_ ≠ (u11 : Value).ownBlock) (.slice (some ⟨go71, 0, none⟩) x12_1.length co71) y265 := (by rw [hw, Ny265.out]; exact HP76.1); clear HP76; have n0_ := am (Kd.R_after (v := (.slice (some ⟨go71, 0, none⟩) x12_1.length co71)) (v1 := (.slice (some ⟨go71, 0, none⟩) x12_1.length co71)) (ok := (fun k_ => some k_ ≠ (v239 : Value).ownBlock ∧ some k_ ≠ (u11 : Value).ownBlock)) (rst (Kd.R_mono HO_8.out (fun _ hk => ⟨⟨hk.1, hk.2.1⟩, hk.2.2⟩))) hg (.inl rfl)); have n1_ := am (Kd.R_after (v := (.slice (some ⟨go71, 0, none⟩) x12_1.length co71)) (v1 := (.slice (some ⟨go71, 0, none⟩) x12_1.length co71)) (ok := (fun k_ => some k_ ≠ (v236 : Value).ownBlock ∧ some k_ ≠ (u11 : Value).ownBlock)) (rst (Kd.R_mono HO_10.out (fun _ hk => ⟨⟨hk.1, hk.2.1⟩, hk.2.2⟩))) hg (.inl rfl)); have n2_ := am (Kd.R_after (v := (.slice (some ⟨go71, 0, none⟩) x12_1.length co71)) (v1 := (.slice (some ⟨go71, 0, none⟩) x12_1.length co71)) (ok := (fun k_ => some k_ ≠ (v236 : Value).ownBlock ∧ some k_ ≠ (v239 : Value).ownBlock)) (rst (Kd.R_mono HO_11.out (fun _ hk => ⟨⟨hk.1, hk.2.1⟩, hk.2.2⟩))) hg (.inl rfl)); have n3_ := am (hp_); have n4_ := am (blk_grown (g := gb248) (o := .cells #[.int .i64 ((rd_T75 l1 x13_1).f0), .int .i64 ((rd_T75 l1 x13_1).f1), .int .i64 ((rd_T75 l1 x13_1).f2), .int .i64 ((rd_T75 l1 x13_1).f3), .int .i64 ((rd_T75 l1 x13_1).f4)] 75 (0, 0)) (by (with_reducible repeat (first | refine blk_drewN ?_ _ | refine blk_drew ?_ | refine blk_alloc ?_ _)); exact BK248.out) hg (Kd.R_ne HO_12.out BK248.out (by decide))); have n5_ := am ((by rw [hw]; exact below_set (HB.out) GB71.out : Below w.heap.size w w77)); clear HO_8; clear HO_10; clear HO_11; clear HO_12; clear BK248; clear HB; have HO_8 := n0_; have HO_10 := n1_; have HO_11 := n2_; have HO_12 := n3_; have BK248 := n4_; have HB := n5_; clear n0_ n1_ n2_ n3_ n4_ n5_; clear hg hw hp_))
         go_roundg k1
         case measure => have := HK1.out; omega
         case rel => exact ⟨(x10_1), (x11_1), (y265), (wrap64 (x13_1 + 1)), (by first | rfl | (simp; done) | (simp [*]; done)), H', ⟨by have := HK1.out; omega⟩, ⟨by first | exact rst (Kd.R_mono HO_8.out (fun _ hk => ⟨hk.1.1, ⟨hk.1.2, hk.2⟩⟩)) | exact Kd.R_mono (rst (Kd.R_mono HO_8.out (fun _ hk => ⟨hk.1.1, ⟨hk.1.2, hk.2⟩⟩))) (by intro k_ hk_; simpa only [ob_eq] using hk_)⟩, ⟨by first | exact rst (Kd.R_mono HO_10.out (fun _ hk => ⟨hk.1.1, ⟨hk.1.2, hk.2⟩⟩)) | exact Kd.R_mono (rst (Kd.R_mono HO_10.out (fun _ hk => ⟨hk.1.1, ⟨hk.1.2, hk.2⟩⟩))) (by intro k_ hk_; simpa only [ob_eq] using hk_)⟩, ⟨by first | exact rst (Kd.R_mono HO_11.out (fun _ hk => ⟨hk.1.1, ⟨hk.1.2, hk.2⟩⟩)) | exact Kd.R_mono (rst (Kd.R_mono HO_11.out (fun _ hk => ⟨hk.1.1, ⟨hk.1.2, hk.2⟩⟩))) (by intro k_ hk_; simpa only [ob_eq] using hk_)⟩, ⟨by first | exact rst HO_12.out | exact Kd.R_mono (rst HO_12.out) (by intro k_ hk_; simpa only [ob_eq] using hk_)⟩, ⟨by repeat (first | (with_reducible first | exact HB.out | apply below_alloc | apply pw_below_drewN | apply below_drew1 | refine below_set ?_ GE248.out) | exact HB.out)⟩⟩
        ·
         rw [if_neg c69] at H
         have c69b0 : (((rd_T75 l1 x13_1).f0) == 5) = false := beq_eq_false_iff_ne.mpr c69
         have c69b1 : (((rd_T75 l1 x13_1).f0) != 5) = true := bne_iff_ne.mpr c69
         by_cases c78 : ((rd_T75 l1 x13_1).f0) = 4
         ·
          rw [if_pos c78] at H
          have c78b0 : (((rd_T75 l1 x13_1).f0) == 4) = true := beq_iff_eq.mpr c78
          have c78b1 : (((rd_T75 l1 x13_1).f0) != 4) = false := bne_eq_false_iff_eq.mpr c78
          clear c78
          replace H := ifp H; obtain ⟨c79, H⟩ := H
          have c79b0 : decide (x13_1 < (t234.length : Int)) = true := decide_eq_true c79
          clear c79
          replace H := ifp H; obtain ⟨c80, H⟩ := H
          have c80b0 : decide (0 ≤ (rd t234 x13_1)) = true := decide_eq_true c80
          clear c80
          replace H := ifp H; obtain ⟨c81, H⟩ := H
          have c81b0 : decide ((rd t234 x13_1) < (l1.length : Int)) = true := decide_eq_true c81
          clear c81
          by_cases c82 : ((rd_T75 l1 (rd t234 x13_1)).f0) = 5
          ·
           rw [if_pos c82] at H
           have c82b0 : (((rd_T75 l1 (rd t234 x13_1)).f0) == 5) = true := beq_iff_eq.mpr c82
           have c82b1 : (((rd_T75 l1 (rd t234 x13_1)).f0) != 5) = false := bne_eq_false_iff_eq.mpr c82
           clear c82
           replace H := ifp H; obtain ⟨c83, H⟩ := H
           have c83b0 : decide ((rd t234 x13_1) < (x12_1.length : Int)) = true := decide_eq_true c83
           clear c83
           by_cases c84 : (rd x12_1 (rd t234 x13_1)) < ((rd_T75 l1 (rd t234 x13_1)).f4)
           ·
            rw [if_pos c84] at H
            have c84b0 : decide ((rd x12_1 (rd t234 x13_1)) < ((rd_T75 l1 (rd t234 x13_1)).f4)) = true := decide_eq_true c84
            clear c84
            obtain ⟨y271, hy271⟩ : ∃ y_ : List Int, y_ = (x12_1.set ((rd t234 x13_1) : Int).toNat (wrap64 ((rd x12_1 (rd t234 x13_1)) + 1))) := ⟨_, rfl⟩
            replace H : (spec_l08Alone.l0 k1 a0 l1 t234 x10_1 x11_1 y271 (wrap64 ((rd t234 x13_1) + 1))) = some (r1, r2) := by first | (rw [hy271]; with_reducible exact H) | (have H2_ := bsm H; rw [hy271]; with_reducible exact H2_) | (have H2_ := bsm H; exact H2_) | (rw [hy271]; exact H) | exact H
            have Ny271 := am hy271; clear hy271; have H' := am H; clear H
            have p247 : 0 ≤ (x13_1 : Int) := od (by assumption)
            have q247 : x13_1 < (l1.length : Int) := od (by assumption)
            obtain ⟨ad247, e247, hx247_0, hx247_1, hx247_2, hx247_3, hx247_4⟩ := at_T75 HR1.out x13_1 p247 q247
            cases e247
            replace hx247_0 := bc HB hx247_0
            replace hx247_1 := bc HB hx247_1
            replace hx247_2 := bc HB hx247_2
            replace hx247_3 := bc HB hx247_3
            replace hx247_4 := bc HB hx247_4
            replace p247 := eq_true p247; replace q247 := eq_true q247
            try go_wp2_with (first | ((with_reducible refine gate_dst (N := 14) rfl ?_); refine box_event ?hg (N := 14) ?hd (cs := #[.int .i64 0, .int .i64 0, .int .i64 0, .int .i64 0, .int .i64 0]) (t := 75) ?hr ?_; (case hd => rfl); (case hg => rfl); (case hr => first | (go_simp; done) | (go_simp; rfl)); intro gb248 hg w86 hbox hb; have n0_ := am (Kd.R_below (rst HO_8.out) hb); have n1_ := am (Kd.R_below (rst HO_10.out) hb); have n2_ := am (Kd.R_below (rst HO_11.out) hb); have n3_ := am (Kd.R_below (rst HO_12.out) hb); have n4_ := am (below_step (bst HB) hb); have n5_ := am (hbox); have n6_ := am ((by rw [hg]; exact (below_size (bst HB)) : w.heap.size ≤ gb248)); have n7_ := am ((by rw [hg]; exact (below_size (bst HB)) : w.heap.size ≤ gb248)); clear HO_8; clear HO_10; clear HO_11; clear HO_12; clear HB; have HO_8 := n0_; have HO_10 := n1_; have HO_11 := n2_; have HO_12 := n3_; have HB := n4_; have BK248 := n5_; have GW248 := n6_; have GE248 := n7_; clear n0_ n1_ n2_ n3_ n4_ n5_ n6_ n7_; clear hb hbox hg; obtain ⟨hcz87_0, hcz87_1, hcz87_2, hcz87_3, hcz87_4, hfz87_0, hfz87_1, hfz87_2, hfz87_3, hfz87_4⟩ := bx5 BK248.out; obtain ⟨Ao88, co88, eo88⟩ := Kd.R_slice HO_8.out; subst eo88; have p266 : 0 ≤ (x13_1 : Int) := od (by assumption); have q266 : x13_1 < (t234.length : Int) := od (by assumption); obtain ⟨ad266, e266, hx266_0⟩ := Kd.at_int (Kd.R_reads' HO_8.out).2.2 x13_1 p266 q266; cases e266; have hn266_0 : ad266.block ≠ gb248 := Kd.own_blk (Kd.R_ne HO_8.out BK248.out (by decide)); have hn266_1 : ad266.block ≠ gb248 := Kd.own_blk (Kd.R_ne HO_8.out BK248.out (by decide)); have hn266_2 : ad266.block ≠ gb248 := Kd.own_blk (Kd.R_ne HO_8.out BK248.out (by decide)); have hn266_3 : ad266.block ≠ gb248 := Kd.own_blk (Kd.R_ne HO_8.out BK248.out (by decide)); have hn266_4 : ad266.block ≠ gb248 := Kd.own_blk (Kd.R_ne HO_8.out BK248.out (by decide)); replace hx266_0 := (cell_far (p := ⟨gb248, 0, none⟩) (by first | (rw [add_block]; exact hn266_0) | (show (Addr.add _ _).block ≠ _; rw [add_block]; exact hn266_0) | exact hn266_0) (.int .i64 ((rd_T75 l1 x13_1).f0))).trans hx266_0; replace hx266_0 := (cell_far (p := ⟨gb248, 1, none⟩) (by first | (rw [add_block]; exact hn266_1) | (show (Addr.add _ _).block ≠ _; rw [add_block]; exact hn266_1) | exact hn266_1) (.int .i64 ((rd_T75 l1 x13_1).f1))).trans hx266_0; replace hx266_0 := (cell_far (p := ⟨gb248, 2, none⟩) (by first | (rw [add_block]; exact hn266_2) | (show (Addr.add _ _).block ≠ _; rw [add_block]; exact hn266_2) | exact hn266_2) (.int .i64 ((rd_T75 l1 x13_1).f2))).trans hx266_0; replace hx266_0 := (cell_far (p := ⟨gb248, 3, none⟩) (by first | (rw [add_block]; exact hn266_3) | (show (Addr.add _ _).block ≠ _; rw [add_block]; exact hn266_3) | exact hn266_3) (.int .i64 ((rd_T75 l1 x13_1).f3))).trans hx266_0; replace hx266_0 := (cell_far (p := ⟨gb248, 4, none⟩) (by first | (rw [add_block]; exact hn266_4) | (show (Addr.add _ _).block ≠ _; rw [add_block]; exact hn266_4) | exact hn266_4) (.int .i64 ((rd_T75 l1 x13_1).f4))).trans hx266_0; clear hn266_0; clear hn266_1; clear hn266_2; clear hn266_3; clear hn266_4; replace p266 := eq_true p266; replace q266 := eq_true q266))
            generalize hwb_ : (((((w86.setCell ⟨gb248, 0, none⟩ (.int .i64 ((rd_T75 l1 x13_1).f0))).setCell ⟨gb248, 1, none⟩ (.int .i64 ((rd_T75 l1 x13_1).f1))).setCell ⟨gb248, 2, none⟩ (.int .i64 ((rd_T75 l1 x13_1).f2))).setCell ⟨gb248, 3, none⟩ (.int .i64 ((rd_T75 l1 x13_1).f3))).setCell ⟨gb248, 4, none⟩ (.int .i64 ((rd_T75 l1 x13_1).f4))) = w89
            have n0_ := am (R_b5 hwb_.symm HO_8.out BK248.out (by decide))
            have n1_ := am (R_b5 hwb_.symm HO_10.out BK248.out (by decide))
            have n2_ := am (R_b5 hwb_.symm HO_11.out BK248.out (by decide))
            have n3_ := am (R_b5 hwb_.symm HO_12.out BK248.out (by decide))
            have n4_ := am (blk_b5 hwb_.symm BK248.out)
            have n5_ := am (below_b5 hwb_.symm HB.out GE248.out)
            (try clear HO_8)
            (try clear HO_10)
            (try clear HO_11)
            (try clear HO_12)
            (try clear BK248)
            (try clear HB)
            clear hwb_
            have HO_8 := n0_
            have HO_10 := n1_
            have HO_11 := n2_
            have HO_12 := n3_
            have BK248 := n4_
            have HB := n5_
            clear n0_ n1_ n2_ n3_ n4_ n5_
            have n0_ := am (Kd.R_drew HO_8.out)
            have n1_ := am (Kd.R_drew HO_10.out)
            have n2_ := am (Kd.R_drew HO_11.out)
            have n3_ := am (Kd.R_drew HO_12.out)
            have n4_ := am (blk_drew BK248.out)
            have n5_ := am (below_drew1 HB.out)
            clear HO_8; clear HO_10; clear HO_11; clear HO_12; clear BK248; clear HB
            have HO_8 := n0_
            have HO_10 := n1_
            have HO_11 := n2_
            have HO_12 := n3_
            have BK248 := n4_
            have HB := n5_
            clear n0_ n1_ n2_ n3_ n4_ n5_
            have p267 : 0 ≤ ((rd t234 x13_1) : Int) := od (by assumption)
            have q267 : (rd t234 x13_1) < (l1.length : Int) := od (by assumption)
            obtain ⟨ad267, e267, hx267_0, hx267_1, hx267_2, hx267_3, hx267_4⟩ := at_T75 HR1.out (rd t234 x13_1) p267 q267
            have hw267_4 := hx267_4
            have hw267_3 := hx267_3
            have hw267_2 := hx267_2
            have hw267_1 := hx267_1
            have hw267_0 := hx267_0
            obtain rfl : ad247 = ad267 := (by injection e267)
            replace hx267_0 := bc HB hx267_0
            replace hx267_1 := bc HB hx267_1
            replace hx267_2 := bc HB hx267_2
            replace hx267_3 := bc HB hx267_3
            replace hx267_4 := bc HB hx267_4
            replace p267 := eq_true p267; replace q267 := eq_true q267
            obtain ⟨Ao91, co91, eo91⟩ := Kd.R_slice HO_12.out
            (first | subst eo91 | (injection eo91 with f1_ f2_ f3_; have f4_ := f1_.symm; have f5_ := f3_.symm; clear f1_ f2_ f3_; subst f4_; subst f5_))
            have p268 : 0 ≤ ((rd t234 x13_1) : Int) := od (by assumption)
            have q268 : (rd t234 x13_1) < (x12_1.length : Int) := od (by assumption)
            obtain ⟨ad268, e268, hx268_0⟩ := Kd.at_int (Kd.R_reads' HO_12.out).2.2 (rd t234 x13_1) p268 q268
            cases e268
            replace p268 := eq_true p268; replace q268 := eq_true q268
            have p269 : 0 ≤ ((rd t234 x13_1) : Int) := od (by assumption)
            have q269 : (rd t234 x13_1) < (l1.length : Int) := od (by assumption)
            obtain ⟨ad269, e269, hx269_0, hx269_1, hx269_2, hx269_3, hx269_4⟩ := at_T75 HR1.out (rd t234 x13_1) p269 q269
            have hw269_4 := hx269_4
            have hw269_3 := hx269_3
            have hw269_2 := hx269_2
            have hw269_1 := hx269_1
            have hw269_0 := hx269_0
            obtain rfl : ad247 = ad269 := (by injection e269)
            replace hx269_0 := bc HB hx269_0
            replace hx269_1 := bc HB hx269_1
            replace hx269_2 := bc HB hx269_2
            replace hx269_3 := bc HB hx269_3
            replace hx269_4 := bc HB hx269_4
            replace p269 := eq_true p269; replace q269 := eq_true q269
            refine start_ (n := 18) (S := fun w' => w'.cell? (ad247.add (((rd t234 x13_1)).toNat * 5)) = some (.int .i64 ((rd_T75 l1 (rd t234 x13_1)).f0)) ∧ w'.cell? ⟨(ad247.add (((rd t234 x13_1)).toNat * 5)).block, (ad247.add (((rd t234 x13_1)).toNat * 5)).off + 1, none⟩ = some (.int .i64 ((rd_T75 l1 (rd t234 x13_1)).f1)) ∧ w'.cell? ⟨(ad247.add (((rd t234 x13_1)).toNat * 5)).block, (ad247.add (((rd t234 x13_1)).toNat * 5)).off + 2, none⟩ = some (.int .i64 ((rd_T75 l1 (rd t234 x13_1)).f2)) ∧ w'.cell? ⟨(ad247.add (((rd t234 x13_1)).toNat * 5)).block, (ad247.add (((rd t234 x13_1)).toNat * 5)).off + 3, none⟩ = some (.int .i64 ((rd_T75 l1 (rd t234 x13_1)).f3)) ∧ w'.cell? ⟨(ad247.add (((rd t234 x13_1)).toNat * 5)).block, (ad247.add (((rd t234 x13_1)).toNat * 5)).off + 4, none⟩ = some (.int .i64 ((rd_T75 l1 (rd t234 x13_1)).f4)) ∧ w'.cell? (ad268.add ((rd t234 x13_1)).toNat) = some (.int .i64 (rd x12_1 (rd t234 x13_1))) ∧ w'.cell? (ad247.add (((rd t234 x13_1)).toNat * 5)) = some (.int .i64 ((rd_T75 l1 (rd t234 x13_1)).f0)) ∧ w'.cell? ⟨(ad247.add (((rd t234 x13_1)).toNat * 5)).block, (ad247.add (((rd t234 x13_1)).toNat * 5)).off + 1, none⟩ = some (.int .i64 ((rd_T75 l1 (rd t234 x13_1)).f1)) ∧ w'.cell? ⟨(ad247.add (((rd t234 x13_1)).toNat * 5)).block, (ad247.add (((rd t234 x13_1)).toNat * 5)).off + 2, none⟩ = some (.int .i64 ((rd_T75 l1 (rd t234 x13_1)).f2)) ∧ w'.cell? ⟨(ad247.add (((rd t234 x13_1)).toNat * 5)).block, (ad247.add (((rd t234 x13_1)).toNat * 5)).off + 3, none⟩ = some (.int .i64 ((rd_T75 l1 (rd t234 x13_1)).f3)) ∧ w'.cell? ⟨(ad247.add (((rd t234 x13_1)).toNat * 5)).block, (ad247.add (((rd t234 x13_1)).toNat * 5)).off + 4, none⟩ = some (.int .i64 ((rd_T75 l1 (rd t234 x13_1)).f4))) (ds := []) #[false, false, false, false, false, false, false, false, false, false, false, false, false, false, false, false, false, false] (by kernel_rfl) rfl rfl ⟨((HB.out.cell (World.block_lt_of_cell? w _ hw267_0)).trans hw267_0), ((HB.out.cell (World.block_lt_of_cell? w _ hw267_1)).trans hw267_1), ((HB.out.cell (World.block_lt_of_cell? w _ hw267_2)).trans hw267_2), ((HB.out.cell (World.block_lt_of_cell? w _ hw267_3)).trans hw267_3), ((HB.out.cell (World.block_lt_of_cell? w _ hw267_4)).trans hw267_4), hx268_0, ((HB.out.cell (World.block_lt_of_cell? w _ hw269_0)).trans hw269_0), ((HB.out.cell (World.block_lt_of_cell? w _ hw269_1)).trans hw269_1), ((HB.out.cell (World.block_lt_of_cell? w _ hw269_2)).trans hw269_2), ((HB.out.cell (World.block_lt_of_cell? w _ hw269_3)).trans hw269_3), ((HB.out.cell (World.block_lt_of_cell? w _ hw269_4)).trans hw269_4)⟩ (fun hHeld => ?_); refine with_tabW spec_l08Alone.tab25 spec_l08Alone.bits25 (fun HT_ HW_ => ?_)
            generalize w89.drew = w90 at HO_8 HO_10 HO_11 HO_12 BK248 HB hx267_0 hx267_1 hx267_2 hx267_3 hx267_4 hx268_0 hx269_0 hx269_1 hx269_2 hx269_3 hx269_4 hHeld ⊢
            refine pure_ (i := 0) (N := some 114) (v := ?_) (a' := ?_) #[true, false, false, false, false, false, false, false, false, false, false, false, false, false, false, false, false, false] rfl rfl (any_of HT_.out (by kernel_rfl)) (fun _ _ _ h => h) (Or.inl ⟨by rfl, ?_⟩) ?_ ?_
            rotate_left
            ·
             intro w'
             go_simp
             with_reducible rfl
            rotate_left
            ·
             simp only [Act.put, List.setIfInBounds_toArray, List.set_cons_zero, List.set_cons_succ, i64_w, i32_w]
             rfl
            refine pure_ (i := 1) (N := some 115) (v := ?_) (a' := ?_) #[true, true, false, false, false, false, false, false, false, false, false, false, false, false, false, false, false, false] rfl rfl (any_of HT_.out (by kernel_rfl)) (fun _ _ _ h => h) (Or.inl ⟨by rfl, ?_⟩) ?_ ?_
            rotate_left
            ·
             intro w'
             go_simp
             with_reducible rfl
            rotate_left
            ·
             simp only [Act.put, List.setIfInBounds_toArray, List.set_cons_zero, List.set_cons_succ, i64_w, i32_w]
             rfl
            refine pure_ (i := 2) (N := some 116) (v := ?_) (a' := ?_) #[true, true, true, false, false, false, false, false, false, false, false, false, false, false, false, false, false, false] rfl rfl (any_of HT_.out (by kernel_rfl)) (fun _ _ _ h => h) (Or.inl ⟨by rfl, ?_⟩) ?_ ?_
            rotate_left
            ·
             intro w'
             go_simp
             with_reducible rfl
            rotate_left
            ·
             simp only [Act.put, List.setIfInBounds_toArray, List.set_cons_zero, List.set_cons_succ, i64_w, i32_w]
             rfl
            refine pure_ (i := 3) (N := some 117) (v := ?_) (a' := ?_) #[true, true, true, true, false, false, false, false, false, false, false, false, false, false, false, false, false, false] rfl rfl (any_of HT_.out (by kernel_rfl)) (fun _ _ _ h => h) (Or.inl ⟨by rfl, ?_⟩) ?_ ?_
            rotate_left
            ·
             intro w'
             go_simp
             with_reducible rfl
            rotate_left
            ·
             simp only [Act.put, List.setIfInBounds_toArray, List.set_cons_zero, List.set_cons_succ, i64_w, i32_w]
             rfl
            refine take_ (i := 4) (N := some 118) (v := ?_) (a' := ?_) #[true, true, true, true, true, false, false, false, false, false, false, false, false, false, false, false, false, false] rfl rfl (take_ofW HT_.out HW_.out (by kernel_rfl)) (fun _ _ _ h => h) (Or.inl ⟨by rfl, ?_⟩) hHeld ?_ ?_
            rotate_left
            ·
             rintro w' ⟨s0, s1, s2, s3, s4, s5, s6, s7, s8, s9, s10⟩
             go_simp
             with_reducible rfl
            rotate_left
            ·
             simp only [Act.put, List.setIfInBounds_toArray, List.set_cons_zero, List.set_cons_succ, i64_w, i32_w]
             rfl
            refine pure_ (i := 5) (N := some 119) (v := ?_) (a' := ?_) #[true, true, true, true, true, true, false, false, false, false, false, false, false, false, false, false, false, false] rfl rfl (any_of HT_.out (by kernel_rfl)) (fun _ _ _ h => h) (Or.inl ⟨by rfl, ?_⟩) ?_ ?_
            rotate_left
            ·
             intro w'
             go_simp
             with_reducible rfl
            rotate_left
            ·
             simp only [Act.put, List.setIfInBounds_toArray, List.set_cons_zero, List.set_cons_succ, i64_w, i32_w]
             rfl
            refine pure_ (i := 6) (N := some 120) (v := ?_) (a' := ?_) #[true, true, true, true, true, true, true, false, false, false, false, false, false, false, false, false, false, false] rfl rfl (any_of HT_.out (by kernel_rfl)) (fun _ _ _ h => h) (Or.inl ⟨by rfl, ?_⟩) ?_ ?_
            rotate_left
            ·
             intro w'
             go_simp
             with_reducible rfl
            rotate_left
            ·
             simp only [Act.put, List.setIfInBounds_toArray, List.set_cons_zero, List.set_cons_succ, i64_w, i32_w]
             rfl
            refine pure_ (i := 7) (N := some 121) (v := ?_) (a' := ?_) #[true, true, true, true, true, true, true, true, false, false, false, false, false, false, false, false, false, false] rfl rfl (any_of HT_.out (by kernel_rfl)) (fun _ _ _ h => h) (Or.inl ⟨by rfl, ?_⟩) ?_ ?_
            rotate_left
            ·
             intro w'
             go_simp
             with_reducible rfl
            rotate_left
            ·
             simp only [Act.put, List.setIfInBounds_toArray, List.set_cons_zero, List.set_cons_succ, i64_w, i32_w]
             rfl
            refine pure_ (i := 8) (N := some 122) (v := ?_) (a' := ?_) #[true, true, true, true, true, true, true, true, true, false, false, false, false, false, false, false, false, false] rfl rfl (any_of HT_.out (by kernel_rfl)) (fun _ _ _ h => h) (Or.inl ⟨by rfl, ?_⟩) ?_ ?_
            rotate_left
            ·
             intro w'
             go_simp
             with_reducible rfl
            rotate_left
            ·
             simp only [Act.put, List.setIfInBounds_toArray, List.set_cons_zero, List.set_cons_succ, i64_w, i32_w]
             rfl
            refine pure_ (i := 9) (N := some 123) (v := ?_) (a' := ?_) #[true, true, true, true, true, true, true, true, true, true, false, false, false, false, false, false, false, false] rfl rfl (any_of HT_.out (by kernel_rfl)) (fun _ _ _ h => h) (Or.inl ⟨by rfl, ?_⟩) ?_ ?_
            rotate_left
            ·
             intro w'
             go_simp
             with_reducible rfl
            rotate_left
            ·
             simp only [Act.put, List.setIfInBounds_toArray, List.set_cons_zero, List.set_cons_succ, i64_w, i32_w]
             rfl
            refine pure_ (i := 11) (N := some 125) (v := ?_) (a' := ?_) #[true, true, true, true, true, true, true, true, true, true, false, true, false, false, false, false, false, false] rfl rfl (any_of HT_.out (by kernel_rfl)) (fun _ _ _ h => h) (Or.inl ⟨by rfl, ?_⟩) ?_ ?_
            rotate_left
            ·
             intro w'
             go_simp
             with_reducible rfl
            rotate_left
            ·
             simp only [Act.put, List.setIfInBounds_toArray, List.set_cons_zero, List.set_cons_succ, i64_w, i32_w]
             rfl
            refine pure_ (i := 12) (N := some 126) (v := ?_) (a' := ?_) #[true, true, true, true, true, true, true, true, true, true, false, true, true, false, false, false, false, false] rfl rfl (any_of HT_.out (by kernel_rfl)) (fun _ _ _ h => h) (Or.inl ⟨by rfl, ?_⟩) ?_ ?_
            rotate_left
            ·
             intro w'
             go_simp
             with_reducible rfl
            rotate_left
            ·
             simp only [Act.put, List.setIfInBounds_toArray, List.set_cons_zero, List.set_cons_succ, i64_w, i32_w]
             rfl
            refine pure_ (i := 13) (N := some 127) (v := ?_) (a' := ?_) #[true, true, true, true, true, true, true, true, true, true, false, true, true, true, false, false, false, false] rfl rfl (any_of HT_.out (by kernel_rfl)) (fun _ _ _ h => h) (Or.inl ⟨by rfl, ?_⟩) ?_ ?_
            rotate_left
            ·
             intro w'
             go_simp
             with_reducible rfl
            rotate_left
            ·
             simp only [Act.put, List.setIfInBounds_toArray, List.set_cons_zero, List.set_cons_succ, i64_w, i32_w]
             rfl
            refine pure_ (i := 14) (N := some 128) (v := ?_) (a' := ?_) #[true, true, true, true, true, true, true, true, true, true, false, true, true, true, true, false, false, false] rfl rfl (any_of HT_.out (by kernel_rfl)) (fun _ _ _ h => h) (Or.inl ⟨by rfl, ?_⟩) ?_ ?_
            rotate_left
            ·
             intro w'
             go_simp
             with_reducible rfl
            rotate_left
            ·
             simp only [Act.put, List.setIfInBounds_toArray, List.set_cons_zero, List.set_cons_succ, i64_w, i32_w]
             rfl
            refine take_ (i := 10) (N := some 124) (v := ?_) (a' := ?_) #[true, true, true, true, true, true, true, true, true, true, true, true, true, true, true, false, false, false] rfl rfl (take_ofW HT_.out HW_.out (by kernel_rfl)) (fun _ _ _ h => h) (Or.inl ⟨by rfl, ?_⟩) hHeld ?_ ?_
            rotate_left
            ·
             rintro w' ⟨s0, s1, s2, s3, s4, s5, s6, s7, s8, s9, s10⟩
             go_simp
             with_reducible rfl
            rotate_left
            ·
             simp only [Act.put, List.setIfInBounds_toArray, List.set_cons_zero, List.set_cons_succ, i64_w, i32_w]
             rfl
            refine take_ (i := 15) (N := some 129) (v := ?_) (a' := ?_) #[true, true, true, true, true, true, true, true, true, true, true, true, true, true, true, true, false, false] rfl rfl (take_ofW HT_.out HW_.out (by kernel_rfl)) (fun _ _ _ h => h) (Or.inl ⟨by rfl, ?_⟩) hHeld ?_ ?_
            rotate_left
            ·
             rintro w' ⟨s0, s1, s2, s3, s4, s5, s6, s7, s8, s9, s10⟩
             go_simp
             with_reducible rfl
            rotate_left
            ·
             simp only [Act.put, List.setIfInBounds_toArray, List.set_cons_zero, List.set_cons_succ, i64_w, i32_w]
             rfl
            refine pure_ (i := 16) (N := some 130) (v := ?_) (a' := ?_) #[true, true, true, true, true, true, true, true, true, true, true, true, true, true, true, true, true, false] rfl rfl (any_of HT_.out (by kernel_rfl)) (fun _ _ _ h => h) (Or.inl ⟨by rfl, ?_⟩) ?_ ?_
            rotate_left
            ·
             intro w'
             go_simp
             with_reducible rfl
            rotate_left
            ·
             simp only [Act.put, List.setIfInBounds_toArray, List.set_cons_zero, List.set_cons_succ, i64_w, i32_w]
             rfl
            refine pure_ (i := 17) (N := some 131) (v := ?_) (a' := ?_) #[true, true, true, true, true, true, true, true, true, true, true, true, true, true, true, true, true, true] rfl rfl (any_of HT_.out (by kernel_rfl)) (fun _ _ _ h => h) (Or.inl ⟨by rfl, ?_⟩) ?_ ?_
            rotate_left
            ·
             intro w'
             go_simp
             with_reducible rfl
            rotate_left
            ·
             simp only [Act.put, List.setIfInBounds_toArray, List.set_cons_zero, List.set_cons_succ, i64_w, i32_w]
             rfl
            refine done_ (done_of HT_.out (by kernel_rfl)) ?_
            have p270 : 0 ≤ ((rd t234 x13_1) : Int) := od (by assumption)
            have q270 : (rd t234 x13_1) < (x12_1.length : Int) := od (by assumption)
            obtain ⟨ad270, e270, hx270_0⟩ := Kd.at_int (Kd.R_reads' HO_12.out).2.2 (rd t234 x13_1) p270 q270
            obtain rfl : ad268 = ad270 := (by injection e270)
            replace p270 := eq_true p270; replace q270 := eq_true q270
            have p85 : 0 ≤ ((rd t234 x13_1) : Int) := od (by assumption)
            have q85 : ((rd t234 x13_1) : Int) < ((x12_1.length : Int) : Int) := od (by assumption)
            obtain ⟨go85, co85, eo85, gb85, gl85, cl85, HG85⟩ := Kd.R_form HO_12.out (by omega)
            (first | cases eo85 | (injection eo85 with ea_ en_ ec_; (first | subst ea_ | (injection ea_ with ea_; subst ea_)); subst ec_; clear en_))
            have GB85 := am gb85
            have GG85 := am HG85
            clear gb85 gl85 HG85
            (first | simp only [add_plain] at hx268_0 | skip)
            (first | simp only [add_plain] at hx270_0 | skip)
            obtain ⟨hx85_0, hf85_0⟩ := Kd.R_celln 0 HO_12.out ((rd t234 x13_1) : Int) p85 q85
            replace p85 := eq_true p85; replace q85 := eq_true q85
            obtain ⟨hy92_, hz92_⟩ := Kd.R_celln 0 HO_12.out ((rd t234 x13_1) : Int) (od (by assumption)) (od (by assumption))
            have HP92 := Kd.R_putg HO_12.out ((rd t234 x13_1) : Int) (wrap64 ((rd x12_1 (rd t234 x13_1)) + 1))
            try go_wp2_with (first | ((with_reducible refine gate_store (t := 2) (p := 137) rfl ?_); refine store_event (t := 2) (p := 137) (v := ?vo_w93) (w1 := (w90.setCell ⟨go85, ((rd t234 x13_1) : Int).toNat, none⟩ (.int .i64 (wrap64 ((rd x12_1 (rd t234 x13_1)) + 1))))) ?hg ?ho ?hn ?hr ?_; (case ho => rfl); (case hg => rfl); (case hn => rfl); (case hr => first | (go_simp; done) | (go_simp; rfl)); intro w93 hw; have hg : w90.grownBy w93 (some go85) := (by rw [hw]; exact HP92.2); have hp_ : Kd.R (Kd.int .i64) 2 w93 w.heap.size (fun k_ => some k_ ≠ (.slice (some ad266) t234.length co88 : Value).ownBlock ∧ some k_ ≠ (v239 : Value).ownBlock ∧ some k_ ≠ (u11 : Value).ownBlock) (.slice (some ⟨go85, 0, none⟩) x12_1.length co91) y271 := (by rw [hw, Ny271.out]; exact HP92.1); clear HP92; have n0_ := am (Kd.R_after (v := (.slice (some ⟨go85, 0, none⟩) x12_1.length co91)) (v1 := (.slice (some ⟨go85, 0, none⟩) x12_1.length co91)) (ok := (fun k_ => some k_ ≠ (v239 : Value).ownBlock ∧ some k_ ≠ (u11 : Value).ownBlock)) (rst (Kd.R_mono HO_8.out (fun _ hk => ⟨⟨hk.1, hk.2.1⟩, hk.2.2⟩))) hg (.inl rfl)); have n1_ := am (Kd.R_after (v := (.slice (some ⟨go85, 0, none⟩) x12_1.length co91)) (v1 := (.slice (some ⟨go85, 0, none⟩) x12_1.length co91)) (ok := (fun k_ => some k_ ≠ (.slice (some ad266) t234.length co88 : Value).ownBlock ∧ some k_ ≠ (u11 : Value).ownBlock)) (rst (Kd.R_mono HO_10.out (fun _ hk => ⟨⟨hk.1, hk.2.1⟩, hk.2.2⟩))) hg (.inl rfl)); have n2_ := am (Kd.R_after (v := (.slice (some ⟨go85, 0, none⟩) x12_1.length co91)) (v1 := (.slice (some ⟨go85, 0, none⟩) x12_1.length co91)) (ok := (fun k_ => some k_ ≠ (.slice (some ad266) t234.length co88 : Value).ownBlock ∧ some k_ ≠ (v239 : Value).ownBlock)) (rst (Kd.R_mono HO_11.out (fun _ hk => ⟨⟨hk.1, hk.2.1⟩, hk.2.2⟩))) hg (.inl rfl)); have n3_ := am (hp_); have n4_ := am (blk_grown (g := gb248) (o := .cells #[.int .i64 ((rd_T75 l1 x13_1).f0), .int .i64 ((rd_T75 l1 x13_1).f1), .int .i64 ((rd_T75 l1 x13_1).f2), .int .i64 ((rd_T75 l1 x13_1).f3), .int .i64 ((rd_T75 l1 x13_1).f4)] 75 (0, 0)) (by (with_reducible repeat (first | refine blk_drewN ?_ _ | refine blk_drew ?_ | refine blk_alloc ?_ _)); exact BK248.out) hg (Kd.R_ne HO_12.out BK248.out (by decide))); have n5_ := am ((by rw [hw]; exact below_set (HB.out) GB85.out : Below w.heap.size w w93)); clear HO_8; clear HO_10; clear HO_11; clear HO_12; clear BK248; clear HB; have HO_8 := n0_; have HO_10 := n1_; have HO_11 := n2_; have HO_12 := n3_; have BK248 := n4_; have HB := n5_; clear n0_ n1_ n2_ n3_ n4_ n5_; clear hg hw hp_))
            go_roundg k1
            case measure => have := HK1.out; omega
            case rel => exact ⟨(x10_1), (x11_1), (y271), (wrap64 ((rd t234 x13_1) + 1)), (by first | rfl | (simp; done) | (simp [*]; done)), H', ⟨by have := HK1.out; omega⟩, ⟨by first | exact rst (Kd.R_mono HO_8.out (fun _ hk => ⟨hk.1.1, ⟨hk.1.2, hk.2⟩⟩)) | exact Kd.R_mono (rst (Kd.R_mono HO_8.out (fun _ hk => ⟨hk.1.1, ⟨hk.1.2, hk.2⟩⟩))) (by intro k_ hk_; simpa only [ob_eq] using hk_)⟩, ⟨by first | exact rst (Kd.R_mono HO_10.out (fun _ hk => ⟨hk.1.1, ⟨hk.1.2, hk.2⟩⟩)) | exact Kd.R_mono (rst (Kd.R_mono HO_10.out (fun _ hk => ⟨hk.1.1, ⟨hk.1.2, hk.2⟩⟩))) (by intro k_ hk_; simpa only [ob_eq] using hk_)⟩, ⟨by first | exact rst (Kd.R_mono HO_11.out (fun _ hk => ⟨hk.1.1, ⟨hk.1.2, hk.2⟩⟩)) | exact Kd.R_mono (rst (Kd.R_mono HO_11.out (fun _ hk => ⟨hk.1.1, ⟨hk.1.2, hk.2⟩⟩))) (by intro k_ hk_; simpa only [ob_eq] using hk_)⟩, ⟨by first | exact rst HO_12.out | exact Kd.R_mono (rst HO_12.out) (by intro k_ hk_; simpa only [ob_eq] using hk_)⟩, ⟨by repeat (first | (with_reducible first | exact HB.out | apply below_alloc | apply pw_below_drewN | apply below_drew1 | refine below_set ?_ GE248.out) | exact HB.out)⟩⟩
           ·
            rw [if_neg c84] at H
            have c84b0 : decide ((rd x12_1 (rd t234 x13_1)) < ((rd_T75 l1 (rd t234 x13_1)).f4)) = false := decide_eq_false c84
            clear c84; have H' := am H; clear H
            have p247 : 0 ≤ (x13_1 : Int) := od (by assumption)
            have q247 : x13_1 < (l1.length : Int) := od (by assumption)
            obtain ⟨ad247, e247, hx247_0, hx247_1, hx247_2, hx247_3, hx247_4⟩ := at_T75 HR1.out x13_1 p247 q247
            cases e247
            replace hx247_0 := bc HB hx247_0
            replace hx247_1 := bc HB hx247_1
            replace hx247_2 := bc HB hx247_2
            replace hx247_3 := bc HB hx247_3
            replace hx247_4 := bc HB hx247_4
            replace p247 := eq_true p247; replace q247 := eq_true q247
            try go_wp2_with (first | ((with_reducible refine gate_dst (N := 14) rfl ?_); refine box_event ?hg (N := 14) ?hd (cs := #[.int .i64 0, .int .i64 0, .int .i64 0, .int .i64 0, .int .i64 0]) (t := 75) ?hr ?_; (case hd => rfl); (case hg => rfl); (case hr => first | (go_simp; done) | (go_simp; rfl)); intro gb248 hg w94 hbox hb; have n0_ := am (Kd.R_below (rst HO_8.out) hb); have n1_ := am (Kd.R_below (rst HO_10.out) hb); have n2_ := am (Kd.R_below (rst HO_11.out) hb); have n3_ := am (Kd.R_below (rst HO_12.out) hb); have n4_ := am (below_step (bst HB) hb); have n5_ := am (hbox); have n6_ := am ((by rw [hg]; exact (below_size (bst HB)) : w.heap.size ≤ gb248)); have n7_ := am ((by rw [hg]; exact (below_size (bst HB)) : w.heap.size ≤ gb248)); clear HO_8; clear HO_10; clear HO_11; clear HO_12; clear HB; have HO_8 := n0_; have HO_10 := n1_; have HO_11 := n2_; have HO_12 := n3_; have HB := n4_; have BK248 := n5_; have GW248 := n6_; have GE248 := n7_; clear n0_ n1_ n2_ n3_ n4_ n5_ n6_ n7_; clear hb hbox hg; obtain ⟨hcz95_0, hcz95_1, hcz95_2, hcz95_3, hcz95_4, hfz95_0, hfz95_1, hfz95_2, hfz95_3, hfz95_4⟩ := bx5 BK248.out; obtain ⟨Ao96, co96, eo96⟩ := Kd.R_slice HO_8.out; subst eo96; have p266 : 0 ≤ (x13_1 : Int) := od (by assumption); have q266 : x13_1 < (t234.length : Int) := od (by assumption); obtain ⟨ad266, e266, hx266_0⟩ := Kd.at_int (Kd.R_reads' HO_8.out).2.2 x13_1 p266 q266; cases e266; have hn266_0 : ad266.block ≠ gb248 := Kd.own_blk (Kd.R_ne HO_8.out BK248.out (by decide)); have hn266_1 : ad266.block ≠ gb248 := Kd.own_blk (Kd.R_ne HO_8.out BK248.out (by decide)); have hn266_2 : ad266.block ≠ gb248 := Kd.own_blk (Kd.R_ne HO_8.out BK248.out (by decide)); have hn266_3 : ad266.block ≠ gb248 := Kd.own_blk (Kd.R_ne HO_8.out BK248.out (by decide)); have hn266_4 : ad266.block ≠ gb248 := Kd.own_blk (Kd.R_ne HO_8.out BK248.out (by decide)); replace hx266_0 := (cell_far (p := ⟨gb248, 0, none⟩) (by first | (rw [add_block]; exact hn266_0) | (show (Addr.add _ _).block ≠ _; rw [add_block]; exact hn266_0) | exact hn266_0) (.int .i64 ((rd_T75 l1 x13_1).f0))).trans hx266_0; replace hx266_0 := (cell_far (p := ⟨gb248, 1, none⟩) (by first | (rw [add_block]; exact hn266_1) | (show (Addr.add _ _).block ≠ _; rw [add_block]; exact hn266_1) | exact hn266_1) (.int .i64 ((rd_T75 l1 x13_1).f1))).trans hx266_0; replace hx266_0 := (cell_far (p := ⟨gb248, 2, none⟩) (by first | (rw [add_block]; exact hn266_2) | (show (Addr.add _ _).block ≠ _; rw [add_block]; exact hn266_2) | exact hn266_2) (.int .i64 ((rd_T75 l1 x13_1).f2))).trans hx266_0; replace hx266_0 := (cell_far (p := ⟨gb248, 3, none⟩) (by first | (rw [add_block]; exact hn266_3) | (show (Addr.add _ _).block ≠ _; rw [add_block]; exact hn266_3) | exact hn266_3) (.int .i64 ((rd_T75 l1 x13_1).f3))).trans hx266_0; replace hx266_0 := (cell_far (p := ⟨gb248, 4, none⟩) (by first | (rw [add_block]; exact hn266_4) | (show (Addr.add _ _).block ≠ _; rw [add_block]; exact hn266_4) | exact hn266_4) (.int .i64 ((rd_T75 l1 x13_1).f4))).trans hx266_0; clear hn266_0; clear hn266_1; clear hn266_2; clear hn266_3; clear hn266_4; replace p266 := eq_true p266; replace q266 := eq_true q266))
            generalize hwb_ : (((((w94.setCell ⟨gb248, 0, none⟩ (.int .i64 ((rd_T75 l1 x13_1).f0))).setCell ⟨gb248, 1, none⟩ (.int .i64 ((rd_T75 l1 x13_1).f1))).setCell ⟨gb248, 2, none⟩ (.int .i64 ((rd_T75 l1 x13_1).f2))).setCell ⟨gb248, 3, none⟩ (.int .i64 ((rd_T75 l1 x13_1).f3))).setCell ⟨gb248, 4, none⟩ (.int .i64 ((rd_T75 l1 x13_1).f4))) = w97
            have n0_ := am (R_b5 hwb_.symm HO_8.out BK248.out (by decide))
            have n1_ := am (R_b5 hwb_.symm HO_10.out BK248.out (by decide))
            have n2_ := am (R_b5 hwb_.symm HO_11.out BK248.out (by decide))
            have n3_ := am (R_b5 hwb_.symm HO_12.out BK248.out (by decide))
            have n4_ := am (blk_b5 hwb_.symm BK248.out)
            have n5_ := am (below_b5 hwb_.symm HB.out GE248.out)
            (try clear HO_8)
            (try clear HO_10)
            (try clear HO_11)
            (try clear HO_12)
            (try clear BK248)
            (try clear HB)
            clear hwb_
            have HO_8 := n0_
            have HO_10 := n1_
            have HO_11 := n2_
            have HO_12 := n3_
            have BK248 := n4_
            have HB := n5_
            clear n0_ n1_ n2_ n3_ n4_ n5_
            have n0_ := am (Kd.R_drew HO_8.out)
            have n1_ := am (Kd.R_drew HO_10.out)
            have n2_ := am (Kd.R_drew HO_11.out)
            have n3_ := am (Kd.R_drew HO_12.out)
            have n4_ := am (blk_drew BK248.out)
            have n5_ := am (below_drew1 HB.out)
            clear HO_8; clear HO_10; clear HO_11; clear HO_12; clear BK248; clear HB
            have HO_8 := n0_
            have HO_10 := n1_
            have HO_11 := n2_
            have HO_12 := n3_
            have BK248 := n4_
            have HB := n5_
            clear n0_ n1_ n2_ n3_ n4_ n5_
            have p267 : 0 ≤ ((rd t234 x13_1) : Int) := od (by assumption)
            have q267 : (rd t234 x13_1) < (l1.length : Int) := od (by assumption)
            obtain ⟨ad267, e267, hx267_0, hx267_1, hx267_2, hx267_3, hx267_4⟩ := at_T75 HR1.out (rd t234 x13_1) p267 q267
            have hw267_4 := hx267_4
            have hw267_3 := hx267_3
            have hw267_2 := hx267_2
            have hw267_1 := hx267_1
            have hw267_0 := hx267_0
            obtain rfl : ad247 = ad267 := (by injection e267)
            replace hx267_0 := bc HB hx267_0
            replace hx267_1 := bc HB hx267_1
            replace hx267_2 := bc HB hx267_2
            replace hx267_3 := bc HB hx267_3
            replace hx267_4 := bc HB hx267_4
            replace p267 := eq_true p267; replace q267 := eq_true q267
            obtain ⟨Ao99, co99, eo99⟩ := Kd.R_slice HO_12.out
            (first | subst eo99 | (injection eo99 with f1_ f2_ f3_; have f4_ := f1_.symm; have f5_ := f3_.symm; clear f1_ f2_ f3_; subst f4_; subst f5_))
            have p268 : 0 ≤ ((rd t234 x13_1) : Int) := od (by assumption)
            have q268 : (rd t234 x13_1) < (x12_1.length : Int) := od (by assumption)
            obtain ⟨ad268, e268, hx268_0⟩ := Kd.at_int (Kd.R_reads' HO_12.out).2.2 (rd t234 x13_1) p268 q268
            cases e268
            replace p268 := eq_true p268; replace q268 := eq_true q268
            have p269 : 0 ≤ ((rd t234 x13_1) : Int) := od (by assumption)
            have q269 : (rd t234 x13_1) < (l1.length : Int) := od (by assumption)
            obtain ⟨ad269, e269, hx269_0, hx269_1, hx269_2, hx269_3, hx269_4⟩ := at_T75 HR1.out (rd t234 x13_1) p269 q269
            have hw269_4 := hx269_4
            have hw269_3 := hx269_3
            have hw269_2 := hx269_2
            have hw269_1 := hx269_1
            have hw269_0 := hx269_0
            obtain rfl : ad247 = ad269 := (by injection e269)
            replace hx269_0 := bc HB hx269_0
            replace hx269_1 := bc HB hx269_1
            replace hx269_2 := bc HB hx269_2
            replace hx269_3 := bc HB hx269_3
            replace hx269_4 := bc HB hx269_4
            replace p269 := eq_true p269; replace q269 := eq_true q269
            refine start_ (n := 18) (S := fun w' => w'.cell? (ad247.add (((rd t234 x13_1)).toNat * 5)) = some (.int .i64 ((rd_T75 l1 (rd t234 x13_1)).f0)) ∧ w'.cell? ⟨(ad247.add (((rd t234 x13_1)).toNat * 5)).block, (ad247.add (((rd t234 x13_1)).toNat * 5)).off + 1, none⟩ = some (.int .i64 ((rd_T75 l1 (rd t234 x13_1)).f1)) ∧ w'.cell? ⟨(ad247.add (((rd t234 x13_1)).toNat * 5)).block, (ad247.add (((rd t234 x13_1)).toNat * 5)).off + 2, none⟩ = some (.int .i64 ((rd_T75 l1 (rd t234 x13_1)).f2)) ∧ w'.cell? ⟨(ad247.add (((rd t234 x13_1)).toNat * 5)).block, (ad247.add (((rd t234 x13_1)).toNat * 5)).off + 3, none⟩ = some (.int .i64 ((rd_T75 l1 (rd t234 x13_1)).f3)) ∧ w'.cell? ⟨(ad247.add (((rd t234 x13_1)).toNat * 5)).block, (ad247.add (((rd t234 x13_1)).toNat * 5)).off + 4, none⟩ = some (.int .i64 ((rd_T75 l1 (rd t234 x13_1)).f4)) ∧ w'.cell? (ad268.add ((rd t234 x13_1)).toNat) = some (.int .i64 (rd x12_1 (rd t234 x13_1))) ∧ w'.cell? (ad247.add (((rd t234 x13_1)).toNat * 5)) = some (.int .i64 ((rd_T75 l1 (rd t234 x13_1)).f0)) ∧ w'.cell? ⟨(ad247.add (((rd t234 x13_1)).toNat * 5)).block, (ad247.add (((rd t234 x13_1)).toNat * 5)).off + 1, none⟩ = some (.int .i64 ((rd_T75 l1 (rd t234 x13_1)).f1)) ∧ w'.cell? ⟨(ad247.add (((rd t234 x13_1)).toNat * 5)).block, (ad247.add (((rd t234 x13_1)).toNat * 5)).off + 2, none⟩ = some (.int .i64 ((rd_T75 l1 (rd t234 x13_1)).f2)) ∧ w'.cell? ⟨(ad247.add (((rd t234 x13_1)).toNat * 5)).block, (ad247.add (((rd t234 x13_1)).toNat * 5)).off + 3, none⟩ = some (.int .i64 ((rd_T75 l1 (rd t234 x13_1)).f3)) ∧ w'.cell? ⟨(ad247.add (((rd t234 x13_1)).toNat * 5)).block, (ad247.add (((rd t234 x13_1)).toNat * 5)).off + 4, none⟩ = some (.int .i64 ((rd_T75 l1 (rd t234 x13_1)).f4))) (ds := []) #[false, false, false, false, false, false, false, false, false, false, false, false, false, false, false, false, false, false] (by kernel_rfl) rfl rfl ⟨((HB.out.cell (World.block_lt_of_cell? w _ hw267_0)).trans hw267_0), ((HB.out.cell (World.block_lt_of_cell? w _ hw267_1)).trans hw267_1), ((HB.out.cell (World.block_lt_of_cell? w _ hw267_2)).trans hw267_2), ((HB.out.cell (World.block_lt_of_cell? w _ hw267_3)).trans hw267_3), ((HB.out.cell (World.block_lt_of_cell? w _ hw267_4)).trans hw267_4), hx268_0, ((HB.out.cell (World.block_lt_of_cell? w _ hw269_0)).trans hw269_0), ((HB.out.cell (World.block_lt_of_cell? w _ hw269_1)).trans hw269_1), ((HB.out.cell (World.block_lt_of_cell? w _ hw269_2)).trans hw269_2), ((HB.out.cell (World.block_lt_of_cell? w _ hw269_3)).trans hw269_3), ((HB.out.cell (World.block_lt_of_cell? w _ hw269_4)).trans hw269_4)⟩ (fun hHeld => ?_); refine with_tabW spec_l08Alone.tab25 spec_l08Alone.bits25 (fun HT_ HW_ => ?_)
            generalize w97.drew = w98 at HO_8 HO_10 HO_11 HO_12 BK248 HB hx267_0 hx267_1 hx267_2 hx267_3 hx267_4 hx268_0 hx269_0 hx269_1 hx269_2 hx269_3 hx269_4 hHeld ⊢
            refine pure_ (i := 0) (N := some 114) (v := ?_) (a' := ?_) #[true, false, false, false, false, false, false, false, false, false, false, false, false, false, false, false, false, false] rfl rfl (any_of HT_.out (by kernel_rfl)) (fun _ _ _ h => h) (Or.inl ⟨by rfl, ?_⟩) ?_ ?_
            rotate_left
            ·
             intro w'
             go_simp
             with_reducible rfl
            rotate_left
            ·
             simp only [Act.put, List.setIfInBounds_toArray, List.set_cons_zero, List.set_cons_succ, i64_w, i32_w]
             rfl
            refine pure_ (i := 1) (N := some 115) (v := ?_) (a' := ?_) #[true, true, false, false, false, false, false, false, false, false, false, false, false, false, false, false, false, false] rfl rfl (any_of HT_.out (by kernel_rfl)) (fun _ _ _ h => h) (Or.inl ⟨by rfl, ?_⟩) ?_ ?_
            rotate_left
            ·
             intro w'
             go_simp
             with_reducible rfl
            rotate_left
            ·
             simp only [Act.put, List.setIfInBounds_toArray, List.set_cons_zero, List.set_cons_succ, i64_w, i32_w]
             rfl
            refine pure_ (i := 2) (N := some 116) (v := ?_) (a' := ?_) #[true, true, true, false, false, false, false, false, false, false, false, false, false, false, false, false, false, false] rfl rfl (any_of HT_.out (by kernel_rfl)) (fun _ _ _ h => h) (Or.inl ⟨by rfl, ?_⟩) ?_ ?_
            rotate_left
            ·
             intro w'
             go_simp
             with_reducible rfl
            rotate_left
            ·
             simp only [Act.put, List.setIfInBounds_toArray, List.set_cons_zero, List.set_cons_succ, i64_w, i32_w]
             rfl
            refine pure_ (i := 3) (N := some 117) (v := ?_) (a' := ?_) #[true, true, true, true, false, false, false, false, false, false, false, false, false, false, false, false, false, false] rfl rfl (any_of HT_.out (by kernel_rfl)) (fun _ _ _ h => h) (Or.inl ⟨by rfl, ?_⟩) ?_ ?_
            rotate_left
            ·
             intro w'
             go_simp
             with_reducible rfl
            rotate_left
            ·
             simp only [Act.put, List.setIfInBounds_toArray, List.set_cons_zero, List.set_cons_succ, i64_w, i32_w]
             rfl
            refine take_ (i := 4) (N := some 118) (v := ?_) (a' := ?_) #[true, true, true, true, true, false, false, false, false, false, false, false, false, false, false, false, false, false] rfl rfl (take_ofW HT_.out HW_.out (by kernel_rfl)) (fun _ _ _ h => h) (Or.inl ⟨by rfl, ?_⟩) hHeld ?_ ?_
            rotate_left
            ·
             rintro w' ⟨s0, s1, s2, s3, s4, s5, s6, s7, s8, s9, s10⟩
             go_simp
             with_reducible rfl
            rotate_left
            ·
             simp only [Act.put, List.setIfInBounds_toArray, List.set_cons_zero, List.set_cons_succ, i64_w, i32_w]
             rfl
            refine pure_ (i := 5) (N := some 119) (v := ?_) (a' := ?_) #[true, true, true, true, true, true, false, false, false, false, false, false, false, false, false, false, false, false] rfl rfl (any_of HT_.out (by kernel_rfl)) (fun _ _ _ h => h) (Or.inl ⟨by rfl, ?_⟩) ?_ ?_
            rotate_left
            ·
             intro w'
             go_simp
             with_reducible rfl
            rotate_left
            ·
             simp only [Act.put, List.setIfInBounds_toArray, List.set_cons_zero, List.set_cons_succ, i64_w, i32_w]
             rfl
            refine pure_ (i := 6) (N := some 120) (v := ?_) (a' := ?_) #[true, true, true, true, true, true, true, false, false, false, false, false, false, false, false, false, false, false] rfl rfl (any_of HT_.out (by kernel_rfl)) (fun _ _ _ h => h) (Or.inl ⟨by rfl, ?_⟩) ?_ ?_
            rotate_left
            ·
             intro w'
             go_simp
             with_reducible rfl
            rotate_left
            ·
             simp only [Act.put, List.setIfInBounds_toArray, List.set_cons_zero, List.set_cons_succ, i64_w, i32_w]
             rfl
            refine pure_ (i := 7) (N := some 121) (v := ?_) (a' := ?_) #[true, true, true, true, true, true, true, true, false, false, false, false, false, false, false, false, false, false] rfl rfl (any_of HT_.out (by kernel_rfl)) (fun _ _ _ h => h) (Or.inl ⟨by rfl, ?_⟩) ?_ ?_
            rotate_left
            ·
             intro w'
             go_simp
             with_reducible rfl
            rotate_left
            ·
             simp only [Act.put, List.setIfInBounds_toArray, List.set_cons_zero, List.set_cons_succ, i64_w, i32_w]
             rfl
            refine pure_ (i := 8) (N := some 122) (v := ?_) (a' := ?_) #[true, true, true, true, true, true, true, true, true, false, false, false, false, false, false, false, false, false] rfl rfl (any_of HT_.out (by kernel_rfl)) (fun _ _ _ h => h) (Or.inl ⟨by rfl, ?_⟩) ?_ ?_
            rotate_left
            ·
             intro w'
             go_simp
             with_reducible rfl
            rotate_left
            ·
             simp only [Act.put, List.setIfInBounds_toArray, List.set_cons_zero, List.set_cons_succ, i64_w, i32_w]
             rfl
            refine pure_ (i := 9) (N := some 123) (v := ?_) (a' := ?_) #[true, true, true, true, true, true, true, true, true, true, false, false, false, false, false, false, false, false] rfl rfl (any_of HT_.out (by kernel_rfl)) (fun _ _ _ h => h) (Or.inl ⟨by rfl, ?_⟩) ?_ ?_
            rotate_left
            ·
             intro w'
             go_simp
             with_reducible rfl
            rotate_left
            ·
             simp only [Act.put, List.setIfInBounds_toArray, List.set_cons_zero, List.set_cons_succ, i64_w, i32_w]
             rfl
            refine pure_ (i := 11) (N := some 125) (v := ?_) (a' := ?_) #[true, true, true, true, true, true, true, true, true, true, false, true, false, false, false, false, false, false] rfl rfl (any_of HT_.out (by kernel_rfl)) (fun _ _ _ h => h) (Or.inl ⟨by rfl, ?_⟩) ?_ ?_
            rotate_left
            ·
             intro w'
             go_simp
             with_reducible rfl
            rotate_left
            ·
             simp only [Act.put, List.setIfInBounds_toArray, List.set_cons_zero, List.set_cons_succ, i64_w, i32_w]
             rfl
            refine pure_ (i := 12) (N := some 126) (v := ?_) (a' := ?_) #[true, true, true, true, true, true, true, true, true, true, false, true, true, false, false, false, false, false] rfl rfl (any_of HT_.out (by kernel_rfl)) (fun _ _ _ h => h) (Or.inl ⟨by rfl, ?_⟩) ?_ ?_
            rotate_left
            ·
             intro w'
             go_simp
             with_reducible rfl
            rotate_left
            ·
             simp only [Act.put, List.setIfInBounds_toArray, List.set_cons_zero, List.set_cons_succ, i64_w, i32_w]
             rfl
            refine pure_ (i := 13) (N := some 127) (v := ?_) (a' := ?_) #[true, true, true, true, true, true, true, true, true, true, false, true, true, true, false, false, false, false] rfl rfl (any_of HT_.out (by kernel_rfl)) (fun _ _ _ h => h) (Or.inl ⟨by rfl, ?_⟩) ?_ ?_
            rotate_left
            ·
             intro w'
             go_simp
             with_reducible rfl
            rotate_left
            ·
             simp only [Act.put, List.setIfInBounds_toArray, List.set_cons_zero, List.set_cons_succ, i64_w, i32_w]
             rfl
            refine pure_ (i := 14) (N := some 128) (v := ?_) (a' := ?_) #[true, true, true, true, true, true, true, true, true, true, false, true, true, true, true, false, false, false] rfl rfl (any_of HT_.out (by kernel_rfl)) (fun _ _ _ h => h) (Or.inl ⟨by rfl, ?_⟩) ?_ ?_
            rotate_left
            ·
             intro w'
             go_simp
             with_reducible rfl
            rotate_left
            ·
             simp only [Act.put, List.setIfInBounds_toArray, List.set_cons_zero, List.set_cons_succ, i64_w, i32_w]
             rfl
            refine take_ (i := 10) (N := some 124) (v := ?_) (a' := ?_) #[true, true, true, true, true, true, true, true, true, true, true, true, true, true, true, false, false, false] rfl rfl (take_ofW HT_.out HW_.out (by kernel_rfl)) (fun _ _ _ h => h) (Or.inl ⟨by rfl, ?_⟩) hHeld ?_ ?_
            rotate_left
            ·
             rintro w' ⟨s0, s1, s2, s3, s4, s5, s6, s7, s8, s9, s10⟩
             go_simp
             with_reducible rfl
            rotate_left
            ·
             simp only [Act.put, List.setIfInBounds_toArray, List.set_cons_zero, List.set_cons_succ, i64_w, i32_w]
             rfl
            refine take_ (i := 15) (N := some 129) (v := ?_) (a' := ?_) #[true, true, true, true, true, true, true, true, true, true, true, true, true, true, true, true, false, false] rfl rfl (take_ofW HT_.out HW_.out (by kernel_rfl)) (fun _ _ _ h => h) (Or.inl ⟨by rfl, ?_⟩) hHeld ?_ ?_
            rotate_left
            ·
             rintro w' ⟨s0, s1, s2, s3, s4, s5, s6, s7, s8, s9, s10⟩
             go_simp
             with_reducible rfl
            rotate_left
            ·
             simp only [Act.put, List.setIfInBounds_toArray, List.set_cons_zero, List.set_cons_succ, i64_w, i32_w]
             rfl
            refine pure_ (i := 16) (N := some 130) (v := ?_) (a' := ?_) #[true, true, true, true, true, true, true, true, true, true, true, true, true, true, true, true, true, false] rfl rfl (any_of HT_.out (by kernel_rfl)) (fun _ _ _ h => h) (Or.inl ⟨by rfl, ?_⟩) ?_ ?_
            rotate_left
            ·
             intro w'
             go_simp
             with_reducible rfl
            rotate_left
            ·
             simp only [Act.put, List.setIfInBounds_toArray, List.set_cons_zero, List.set_cons_succ, i64_w, i32_w]
             rfl
            refine pure_ (i := 17) (N := some 131) (v := ?_) (a' := ?_) #[true, true, true, true, true, true, true, true, true, true, true, true, true, true, true, true, true, true] rfl rfl (any_of HT_.out (by kernel_rfl)) (fun _ _ _ h => h) (Or.inl ⟨by rfl, ?_⟩) ?_ ?_
            rotate_left
            ·
             intro w'
             go_simp
             with_reducible rfl
            rotate_left
            ·
             simp only [Act.put, List.setIfInBounds_toArray, List.set_cons_zero, List.set_cons_succ, i64_w, i32_w]
             rfl
            refine done_ (done_of HT_.out (by kernel_rfl)) ?_
            try go_wp2
            go_roundg k1
            case measure => have := HK1.out; omega
            case rel => exact ⟨(x10_1), (x11_1), (x12_1), (wrap64 (x13_1 + 1)), (by first | rfl | (simp; done) | (simp [*]; done)), H', ⟨by have := HK1.out; omega⟩, ⟨by first | exact rst HO_8.out | exact Kd.R_mono (rst HO_8.out) (by intro k_ hk_; simpa only [ob_eq] using hk_)⟩, ⟨by first | exact rst HO_10.out | exact Kd.R_mono (rst HO_10.out) (by intro k_ hk_; simpa only [ob_eq] using hk_)⟩, ⟨by first | exact rst HO_11.out | exact Kd.R_mono (rst HO_11.out) (by intro k_ hk_; simpa only [ob_eq] using hk_)⟩, ⟨by first | exact rst HO_12.out | exact Kd.R_mono (rst HO_12.out) (by intro k_ hk_; simpa only [ob_eq] using hk_)⟩, ⟨by repeat (first | (with_reducible first | exact HB.out | apply below_alloc | apply pw_below_drewN | apply below_drew1 | refine below_set ?_ GE248.out) | exact HB.out)⟩⟩
          ·
           rw [if_neg c82] at H
           have c82b0 : (((rd_T75 l1 (rd t234 x13_1)).f0) == 5) = false := beq_eq_false_iff_ne.mpr c82
           have c82b1 : (((rd_T75 l1 (rd t234 x13_1)).f0) != 5) = true := bne_iff_ne.mpr c82
           have H' := am H; clear H
           have p247 : 0 ≤ (x13_1 : Int) := od (by assumption)
           have q247 : x13_1 < (l1.length : Int) := od (by assumption)
           obtain ⟨ad247, e247, hx247_0, hx247_1, hx247_2, hx247_3, hx247_4⟩ := at_T75 HR1.out x13_1 p247 q247
           cases e247
           replace hx247_0 := bc HB hx247_0
           replace hx247_1 := bc HB hx247_1
           replace hx247_2 := bc HB hx247_2
           replace hx247_3 := bc HB hx247_3
           replace hx247_4 := bc HB hx247_4
           replace p247 := eq_true p247; replace q247 := eq_true q247
           try go_wp2_with (first | ((with_reducible refine gate_dst (N := 14) rfl ?_); refine box_event ?hg (N := 14) ?hd (cs := #[.int .i64 0, .int .i64 0, .int .i64 0, .int .i64 0, .int .i64 0]) (t := 75) ?hr ?_; (case hd => rfl); (case hg => rfl); (case hr => first | (go_simp; done) | (go_simp; rfl)); intro gb248 hg w100 hbox hb; have n0_ := am (Kd.R_below (rst HO_8.out) hb); have n1_ := am (Kd.R_below (rst HO_10.out) hb); have n2_ := am (Kd.R_below (rst HO_11.out) hb); have n3_ := am (Kd.R_below (rst HO_12.out) hb); have n4_ := am (below_step (bst HB) hb); have n5_ := am (hbox); have n6_ := am ((by rw [hg]; exact (below_size (bst HB)) : w.heap.size ≤ gb248)); have n7_ := am ((by rw [hg]; exact (below_size (bst HB)) : w.heap.size ≤ gb248)); clear HO_8; clear HO_10; clear HO_11; clear HO_12; clear HB; have HO_8 := n0_; have HO_10 := n1_; have HO_11 := n2_; have HO_12 := n3_; have HB := n4_; have BK248 := n5_; have GW248 := n6_; have GE248 := n7_; clear n0_ n1_ n2_ n3_ n4_ n5_ n6_ n7_; clear hb hbox hg; obtain ⟨hcz101_0, hcz101_1, hcz101_2, hcz101_3, hcz101_4, hfz101_0, hfz101_1, hfz101_2, hfz101_3, hfz101_4⟩ := bx5 BK248.out; obtain ⟨Ao102, co102, eo102⟩ := Kd.R_slice HO_8.out; subst eo102; have p266 : 0 ≤ (x13_1 : Int) := od (by assumption); have q266 : x13_1 < (t234.length : Int) := od (by assumption); obtain ⟨ad266, e266, hx266_0⟩ := Kd.at_int (Kd.R_reads' HO_8.out).2.2 x13_1 p266 q266; cases e266; have hn266_0 : ad266.block ≠ gb248 := Kd.own_blk (Kd.R_ne HO_8.out BK248.out (by decide)); have hn266_1 : ad266.block ≠ gb248 := Kd.own_blk (Kd.R_ne HO_8.out BK248.out (by decide)); have hn266_2 : ad266.block ≠ gb248 := Kd.own_blk (Kd.R_ne HO_8.out BK248.out (by decide)); have hn266_3 : ad266.block ≠ gb248 := Kd.own_blk (Kd.R_ne HO_8.out BK248.out (by decide)); have hn266_4 : ad266.block ≠ gb248 := Kd.own_blk (Kd.R_ne HO_8.out BK248.out (by decide)); replace hx266_0 := (cell_far (p := ⟨gb248, 0, none⟩) (by first | (rw [add_block]; exact hn266_0) | (show (Addr.add _ _).block ≠ _; rw [add_block]; exact hn266_0) | exact hn266_0) (.int .i64 ((rd_T75 l1 x13_1).f0))).trans hx266_0; replace hx266_0 := (cell_far (p := ⟨gb248, 1, none⟩) (by first | (rw [add_block]; exact hn266_1) | (show (Addr.add _ _).block ≠ _; rw [add_block]; exact hn266_1) | exact hn266_1) (.int .i64 ((rd_T75 l1 x13_1).f1))).trans hx266_0; replace hx266_0 := (cell_far (p := ⟨gb248, 2, none⟩) (by first | (rw [add_block]; exact hn266_2) | (show (Addr.add _ _).block ≠ _; rw [add_block]; exact hn266_2) | exact hn266_2) (.int .i64 ((rd_T75 l1 x13_1).f2))).trans hx266_0; replace hx266_0 := (cell_far (p := ⟨gb248, 3, none⟩) (by first | (rw [add_block]; exact hn266_3) | (show (Addr.add _ _).block ≠ _; rw [add_block]; exact hn266_3) | exact hn266_3) (.int .i64 ((rd_T75 l1 x13_1).f3))).trans hx266_0; replace hx266_0 := (cell_far (p := ⟨gb248, 4, none⟩) (by first | (rw [add_block]; exact hn266_4) | (show (Addr.add _ _).block ≠ _; rw [add_block]; exact hn266_4) | exact hn266_4) (.int .i64 ((rd_T75 l1 x13_1).f4))).trans hx266_0; clear hn266_0; clear hn266_1; clear hn266_2; clear hn266_3; clear hn266_4; replace p266 := eq_true p266; replace q266 := eq_true q266))
           generalize hwb_ : (((((w100.setCell ⟨gb248, 0, none⟩ (.int .i64 ((rd_T75 l1 x13_1).f0))).setCell ⟨gb248, 1, none⟩ (.int .i64 ((rd_T75 l1 x13_1).f1))).setCell ⟨gb248, 2, none⟩ (.int .i64 ((rd_T75 l1 x13_1).f2))).setCell ⟨gb248, 3, none⟩ (.int .i64 ((rd_T75 l1 x13_1).f3))).setCell ⟨gb248, 4, none⟩ (.int .i64 ((rd_T75 l1 x13_1).f4))) = w103
           have n0_ := am (R_b5 hwb_.symm HO_8.out BK248.out (by decide))
           have n1_ := am (R_b5 hwb_.symm HO_10.out BK248.out (by decide))
           have n2_ := am (R_b5 hwb_.symm HO_11.out BK248.out (by decide))
           have n3_ := am (R_b5 hwb_.symm HO_12.out BK248.out (by decide))
           have n4_ := am (blk_b5 hwb_.symm BK248.out)
           have n5_ := am (below_b5 hwb_.symm HB.out GE248.out)
           (try clear HO_8)
           (try clear HO_10)
           (try clear HO_11)
           (try clear HO_12)
           (try clear BK248)
           (try clear HB)
           clear hwb_
           have HO_8 := n0_
           have HO_10 := n1_
           have HO_11 := n2_
           have HO_12 := n3_
           have BK248 := n4_
           have HB := n5_
           clear n0_ n1_ n2_ n3_ n4_ n5_
           have n0_ := am (Kd.R_drew HO_8.out)
           have n1_ := am (Kd.R_drew HO_10.out)
           have n2_ := am (Kd.R_drew HO_11.out)
           have n3_ := am (Kd.R_drew HO_12.out)
           have n4_ := am (blk_drew BK248.out)
           have n5_ := am (below_drew1 HB.out)
           clear HO_8; clear HO_10; clear HO_11; clear HO_12; clear BK248; clear HB
           have HO_8 := n0_
           have HO_10 := n1_
           have HO_11 := n2_
           have HO_12 := n3_
           have BK248 := n4_
           have HB := n5_
           clear n0_ n1_ n2_ n3_ n4_ n5_
           have p267 : 0 ≤ ((rd t234 x13_1) : Int) := od (by assumption)
           have q267 : (rd t234 x13_1) < (l1.length : Int) := od (by assumption)
           obtain ⟨ad267, e267, hx267_0, hx267_1, hx267_2, hx267_3, hx267_4⟩ := at_T75 HR1.out (rd t234 x13_1) p267 q267
           have hw267_4 := hx267_4
           have hw267_3 := hx267_3
           have hw267_2 := hx267_2
           have hw267_1 := hx267_1
           have hw267_0 := hx267_0
           obtain rfl : ad247 = ad267 := (by injection e267)
           replace hx267_0 := bc HB hx267_0
           replace hx267_1 := bc HB hx267_1
           replace hx267_2 := bc HB hx267_2
           replace hx267_3 := bc HB hx267_3
           replace hx267_4 := bc HB hx267_4
           replace p267 := eq_true p267; replace q267 := eq_true q267
           refine start_ (n := 18) (S := fun w' => w'.cell? (ad247.add (((rd t234 x13_1)).toNat * 5)) = some (.int .i64 ((rd_T75 l1 (rd t234 x13_1)).f0)) ∧ w'.cell? ⟨(ad247.add (((rd t234 x13_1)).toNat * 5)).block, (ad247.add (((rd t234 x13_1)).toNat * 5)).off + 1, none⟩ = some (.int .i64 ((rd_T75 l1 (rd t234 x13_1)).f1)) ∧ w'.cell? ⟨(ad247.add (((rd t234 x13_1)).toNat * 5)).block, (ad247.add (((rd t234 x13_1)).toNat * 5)).off + 2, none⟩ = some (.int .i64 ((rd_T75 l1 (rd t234 x13_1)).f2)) ∧ w'.cell? ⟨(ad247.add (((rd t234 x13_1)).toNat * 5)).block, (ad247.add (((rd t234 x13_1)).toNat * 5)).off + 3, none⟩ = some (.int .i64 ((rd_T75 l1 (rd t234 x13_1)).f3)) ∧ w'.cell? ⟨(ad247.add (((rd t234 x13_1)).toNat * 5)).block, (ad247.add (((rd t234 x13_1)).toNat * 5)).off + 4, none⟩ = some (.int .i64 ((rd_T75 l1 (rd t234 x13_1)).f4))) (ds := []) #[false, false, false, false, false, false, false, false, false, false, false, false, false, false, false, false, false, false] (by kernel_rfl) rfl rfl ⟨((HB.out.cell (World.block_lt_of_cell? w _ hw267_0)).trans hw267_0), ((HB.out.cell (World.block_lt_of_cell? w _ hw267_1)).trans hw267_1), ((HB.out.cell (World.block_lt_of_cell? w _ hw267_2)).trans hw267_2), ((HB.out.cell (World.block_lt_of_cell? w _ hw267_3)).trans hw267_3), ((HB.out.cell (World.block_lt_of_cell? w _ hw267_4)).trans hw267_4)⟩ (fun hHeld => ?_); refine with_tabW spec_l08Alone.tab25 spec_l08Alone.bits25 (fun HT_ HW_ => ?_)
           generalize w103.drew = w104 at HO_8 HO_10 HO_11 HO_12 BK248 HB hx267_0 hx267_1 hx267_2 hx267_3 hx267_4 hHeld ⊢
           refine pure_ (i := 0) (N := some 114) (v := ?_) (a' := ?_) #[true, false, false, false, false, false, false, false, false, false, false, false, false, false, false, false, false, false] rfl rfl (any_of HT_.out (by kernel_rfl)) (fun _ _ _ h => h) (Or.inl ⟨by rfl, ?_⟩) ?_ ?_
           rotate_left
           ·
            intro w'
            go_simp
            with_reducible rfl
           rotate_left
           ·
            simp only [Act.put, List.setIfInBounds_toArray, List.set_cons_zero, List.set_cons_succ, i64_w, i32_w]
            rfl
           refine pure_ (i := 1) (N := some 115) (v := ?_) (a' := ?_) #[true, true, false, false, false, false, false, false, false, false, false, false, false, false, false, false, false, false] rfl rfl (any_of HT_.out (by kernel_rfl)) (fun _ _ _ h => h) (Or.inl ⟨by rfl, ?_⟩) ?_ ?_
           rotate_left
           ·
            intro w'
            go_simp
            with_reducible rfl
           rotate_left
           ·
            simp only [Act.put, List.setIfInBounds_toArray, List.set_cons_zero, List.set_cons_succ, i64_w, i32_w]
            rfl
           refine pure_ (i := 2) (N := some 116) (v := ?_) (a' := ?_) #[true, true, true, false, false, false, false, false, false, false, false, false, false, false, false, false, false, false] rfl rfl (any_of HT_.out (by kernel_rfl)) (fun _ _ _ h => h) (Or.inl ⟨by rfl, ?_⟩) ?_ ?_
           rotate_left
           ·
            intro w'
            go_simp
            with_reducible rfl
           rotate_left
           ·
            simp only [Act.put, List.setIfInBounds_toArray, List.set_cons_zero, List.set_cons_succ, i64_w, i32_w]
            rfl
           refine pure_ (i := 3) (N := some 117) (v := ?_) (a' := ?_) #[true, true, true, true, false, false, false, false, false, false, false, false, false, false, false, false, false, false] rfl rfl (any_of HT_.out (by kernel_rfl)) (fun _ _ _ h => h) (Or.inl ⟨by rfl, ?_⟩) ?_ ?_
           rotate_left
           ·
            intro w'
            go_simp
            with_reducible rfl
           rotate_left
           ·
            simp only [Act.put, List.setIfInBounds_toArray, List.set_cons_zero, List.set_cons_succ, i64_w, i32_w]
            rfl
           refine take_ (i := 4) (N := some 118) (v := ?_) (a' := ?_) #[true, true, true, true, true, false, false, false, false, false, false, false, false, false, false, false, false, false] rfl rfl (take_ofW HT_.out HW_.out (by kernel_rfl)) (fun _ _ _ h => h) (Or.inl ⟨by rfl, ?_⟩) hHeld ?_ ?_
           rotate_left
           ·
            rintro w' ⟨s0, s1, s2, s3, s4⟩
            go_simp
            with_reducible rfl
           rotate_left
           ·
            simp only [Act.put, List.setIfInBounds_toArray, List.set_cons_zero, List.set_cons_succ, i64_w, i32_w]
            rfl
           refine pure_ (i := 5) (N := some 119) (v := ?_) (a' := ?_) #[true, true, true, true, true, true, false, false, false, false, false, false, false, false, false, false, false, false] rfl rfl (any_of HT_.out (by kernel_rfl)) (fun _ _ _ h => h) (Or.inl ⟨by rfl, ?_⟩) ?_ ?_
           rotate_left
           ·
            intro w'
            go_simp
            with_reducible rfl
           rotate_left
           ·
            simp only [Act.put, List.setIfInBounds_toArray, List.set_cons_zero, List.set_cons_succ, i64_w, i32_w]
            rfl
           refine pure_ (i := 6) (N := some 120) (v := ?_) (a' := ?_) #[true, true, true, true, true, true, true, false, false, false, false, false, false, false, false, false, false, false] rfl rfl (any_of HT_.out (by kernel_rfl)) (fun _ _ _ h => h) (Or.inl ⟨by rfl, ?_⟩) ?_ ?_
           rotate_left
           ·
            intro w'
            go_simp
            with_reducible rfl
           rotate_left
           ·
            simp only [Act.put, List.setIfInBounds_toArray, List.set_cons_zero, List.set_cons_succ, i64_w, i32_w]
            rfl
           refine pure_ (i := 7) (N := some 121) (v := undef) (a' := ?_) #[true, true, true, true, true, true, true, true, false, false, false, false, false, false, false, false, false, false] rfl rfl (any_of HT_.out (by kernel_rfl)) (fun _ _ _ h => h) (Or.inr ⟨by rfl, rfl⟩) ?_ ?_
           rotate_left
           ·
            simp only [Act.put, List.setIfInBounds_toArray, List.set_cons_zero, List.set_cons_succ, i64_w, i32_w]
            rfl
           refine pure_ (i := 8) (N := some 122) (v := undef) (a' := ?_) #[true, true, true, true, true, true, true, true, true, false, false, false, false, false, false, false, false, false] rfl rfl (any_of HT_.out (by kernel_rfl)) (fun _ _ _ h => h) (Or.inr ⟨by rfl, rfl⟩) ?_ ?_
           rotate_left
           ·
            simp only [Act.put, List.setIfInBounds_toArray, List.set_cons_zero, List.set_cons_succ, i64_w, i32_w]
            rfl
           refine pure_ (i := 9) (N := some 123) (v := undef) (a' := ?_) #[true, true, true, true, true, true, true, true, true, true, false, false, false, false, false, false, false, false] rfl rfl (any_of HT_.out (by kernel_rfl)) (fun _ _ _ h => h) (Or.inr ⟨by rfl, rfl⟩) ?_ ?_
           rotate_left
           ·
            simp only [Act.put, List.setIfInBounds_toArray, List.set_cons_zero, List.set_cons_succ, i64_w, i32_w]
            rfl
           refine pure_ (i := 10) (N := some 124) (v := undef) (a' := ?_) #[true, true, true, true, true, true, true, true, true, true, true, false, false, false, false, false, false, false] rfl rfl (any_of HT_.out (by kernel_rfl)) (fun _ _ _ h => h) (Or.inr ⟨by rfl, rfl⟩) ?_ ?_
           rotate_left
           ·
            simp only [Act.put, List.setIfInBounds_toArray, List.set_cons_zero, List.set_cons_succ, i64_w, i32_w]
            rfl
           refine pure_ (i := 11) (N := some 125) (v := undef) (a' := ?_) #[true, true, true, true, true, true, true, true, true, true, true, true, false, false, false, false, false, false] rfl rfl (any_of HT_.out (by kernel_rfl)) (fun _ _ _ h => h) (Or.inr ⟨by rfl, rfl⟩) ?_ ?_
           rotate_left
           ·
            simp only [Act.put, List.setIfInBounds_toArray, List.set_cons_zero, List.set_cons_succ, i64_w, i32_w]
            rfl
           refine pure_ (i := 12) (N := some 126) (v := undef) (a' := ?_) #[true, true, true, true, true, true, true, true, true, true, true, true, true, false, false, false, false, false] rfl rfl (any_of HT_.out (by kernel_rfl)) (fun _ _ _ h => h) (Or.inr ⟨by rfl, rfl⟩) ?_ ?_
           rotate_left
           ·
            simp only [Act.put, List.setIfInBounds_toArray, List.set_cons_zero, List.set_cons_succ, i64_w, i32_w]
            rfl
           refine pure_ (i := 13) (N := some 127) (v := undef) (a' := ?_) #[true, true, true, true, true, true, true, true, true, true, true, true, true, true, false, false, false, false] rfl rfl (any_of HT_.out (by kernel_rfl)) (fun _ _ _ h => h) (Or.inr ⟨by rfl, rfl⟩) ?_ ?_
           rotate_left
           ·
            simp only [Act.put, List.setIfInBounds_toArray, List.set_cons_zero, List.set_cons_succ, i64_w, i32_w]
            rfl
           refine pure_ (i := 14) (N := some 128) (v := undef) (a' := ?_) #[true, true, true, true, true, true, true, true, true, true, true, true, true, true, true, false, false, false] rfl rfl (any_of HT_.out (by kernel_rfl)) (fun _ _ _ h => h) (Or.inr ⟨by rfl, rfl⟩) ?_ ?_
           rotate_left
           ·
            simp only [Act.put, List.setIfInBounds_toArray, List.set_cons_zero, List.set_cons_succ, i64_w, i32_w]
            rfl
           refine pure_ (i := 15) (N := some 129) (v := undef) (a' := ?_) #[true, true, true, true, true, true, true, true, true, true, true, true, true, true, true, true, false, false] rfl rfl (any_of HT_.out (by kernel_rfl)) (fun _ _ _ h => h) (Or.inr ⟨by rfl, rfl⟩) ?_ ?_
           rotate_left
           ·
            simp only [Act.put, List.setIfInBounds_toArray, List.set_cons_zero, List.set_cons_succ, i64_w, i32_w]
            rfl
           refine pure_ (i := 16) (N := some 130) (v := undef) (a' := ?_) #[true, true, true, true, true, true, true, true, true, true, true, true, true, true, true, true, true, false] rfl rfl (any_of HT_.out (by kernel_rfl)) (fun _ _ _ h => h) (Or.inr ⟨by rfl, rfl⟩) ?_ ?_
           rotate_left
           ·
            simp only [Act.put, List.setIfInBounds_toArray, List.set_cons_zero, List.set_cons_succ, i64_w, i32_w]
            rfl
           refine pure_ (i := 17) (N := some 131) (v := ?_) (a' := ?_) #[true, true, true, true, true, true, true, true, true, true, true, true, true, true, true, true, true, true] rfl rfl (any_of HT_.out (by kernel_rfl)) (fun _ _ _ h => h) (Or.inl ⟨by rfl, ?_⟩) ?_ ?_
           rotate_left
           ·
            intro w'
            go_simp
            with_reducible rfl
           rotate_left
           ·
            simp only [Act.put, List.setIfInBounds_toArray, List.set_cons_zero, List.set_cons_succ, i64_w, i32_w]
            rfl
           refine done_ (done_of HT_.out (by kernel_rfl)) ?_
           try go_wp2
           go_roundg k1
           case measure => have := HK1.out; omega
           case rel => exact ⟨(x10_1), (x11_1), (x12_1), (wrap64 (x13_1 + 1)), (by first | rfl | (simp; done) | (simp [*]; done)), H', ⟨by have := HK1.out; omega⟩, ⟨by first | exact rst HO_8.out | exact Kd.R_mono (rst HO_8.out) (by intro k_ hk_; simpa only [ob_eq] using hk_)⟩, ⟨by first | exact rst HO_10.out | exact Kd.R_mono (rst HO_10.out) (by intro k_ hk_; simpa only [ob_eq] using hk_)⟩, ⟨by first | exact rst HO_11.out | exact Kd.R_mono (rst HO_11.out) (by intro k_ hk_; simpa only [ob_eq] using hk_)⟩, ⟨by first | exact rst HO_12.out | exact Kd.R_mono (rst HO_12.out) (by intro k_ hk_; simpa only [ob_eq] using hk_)⟩, ⟨by repeat (first | (with_reducible first | exact HB.out | apply below_alloc | apply pw_below_drewN | apply below_drew1 | refine below_set ?_ GE248.out) | exact HB.out)⟩⟩
         ·
          rw [if_neg c78] at H
          have c78b0 : (((rd_T75 l1 x13_1).f0) == 4) = false := beq_eq_false_iff_ne.mpr c78
          have c78b1 : (((rd_T75 l1 x13_1).f0) != 4) = true := bne_iff_ne.mpr c78
          by_cases c105 : ((rd_T75 l1 x13_1).f0) = 6
          ·
           rw [if_pos c105] at H
           have c105b0 : (((rd_T75 l1 x13_1).f0) == 6) = true := beq_iff_eq.mpr c105
           have c105b1 : (((rd_T75 l1 x13_1).f0) != 6) = false := bne_eq_false_iff_eq.mpr c105
           clear c105
           replace H := ifp H; obtain ⟨c106, H⟩ := H
           have c106b0 : decide (0 ≤ ((rd_T75 l1 x13_1).f3)) = true := decide_eq_true c106
           clear c106
           replace H := ifp H; obtain ⟨c107, H⟩ := H
           have c107b0 : decide (((rd_T75 l1 x13_1).f3) < (x10_1.length : Int)) = true := decide_eq_true c107
           clear c107
           replace H := ifp H; obtain ⟨c108, H⟩ := H
           have c108b0 : decide (0 ≤ ((rd_T75 l1 x13_1).f4)) = true := decide_eq_true c108
           clear c108
           replace H := ifp H; obtain ⟨c109, H⟩ := H
           have c109b0 : decide (((rd_T75 l1 x13_1).f4) < (x10_1.length : Int)) = true := decide_eq_true c109
           clear c109
           replace H := Option.bind_eq_some_iff.mp H
           obtain ⟨t274, A1100, H⟩ := H
           replace H : (if t274 = true then (if x13_1 < (t234.length : Int) then (spec_l08Alone.l0 k1 a0 l1 t234 x10_1 x11_1 x12_1 (wrap64 ((rd t234 x13_1) + 1))) else (none)) else (spec_l08Alone.l0 k1 a0 l1 t234 x10_1 x11_1 x12_1 (wrap64 (x13_1 + 1)))) = some (r1, r2) := H
           have A110 := am A1100
           clear A1100
           by_cases c111 : t274 = true
           ·
            subst c111
            have H1 : (if x13_1 < (t234.length : Int) then (spec_l08Alone.l0 k1 a0 l1 t234 x10_1 x11_1 x12_1 (wrap64 ((rd t234 x13_1) + 1))) else (none)) = some (r1, r2) := by rw [if_pos rfl] at H; exact H
            clear H
            have H := H1
            clear H1
            replace H := ifp H; obtain ⟨c112, H⟩ := H
            have c112b0 : decide (x13_1 < (t234.length : Int)) = true := decide_eq_true c112
            clear c112; have H' := am H; clear H
            have p247 : 0 ≤ (x13_1 : Int) := od (by assumption)
            have q247 : x13_1 < (l1.length : Int) := od (by assumption)
            obtain ⟨ad247, e247, hx247_0, hx247_1, hx247_2, hx247_3, hx247_4⟩ := at_T75 HR1.out x13_1 p247 q247
            cases e247
            replace hx247_0 := bc HB hx247_0
            replace hx247_1 := bc HB hx247_1
            replace hx247_2 := bc HB hx247_2
            replace hx247_3 := bc HB hx247_3
            replace hx247_4 := bc HB hx247_4
            replace p247 := eq_true p247; replace q247 := eq_true q247
            try go_wp2_with (first | ((with_reducible refine gate_dst (N := 14) rfl ?_); refine box_event ?hg (N := 14) ?hd (cs := #[.int .i64 0, .int .i64 0, .int .i64 0, .int .i64 0, .int .i64 0]) (t := 75) ?hr ?_; (case hd => rfl); (case hg => rfl); (case hr => first | (go_simp; done) | (go_simp; rfl)); intro gb248 hg w113 hbox hb; have n0_ := am (Kd.R_below (rst HO_8.out) hb); have n1_ := am (Kd.R_below (rst HO_10.out) hb); have n2_ := am (Kd.R_below (rst HO_11.out) hb); have n3_ := am (Kd.R_below (rst HO_12.out) hb); have n4_ := am (below_step (bst HB) hb); have n5_ := am (hbox); have n6_ := am ((by rw [hg]; exact (below_size (bst HB)) : w.heap.size ≤ gb248)); have n7_ := am ((by rw [hg]; exact (below_size (bst HB)) : w.heap.size ≤ gb248)); clear HO_8; clear HO_10; clear HO_11; clear HO_12; clear HB; have HO_8 := n0_; have HO_10 := n1_; have HO_11 := n2_; have HO_12 := n3_; have HB := n4_; have BK248 := n5_; have GW248 := n6_; have GE248 := n7_; clear n0_ n1_ n2_ n3_ n4_ n5_ n6_ n7_; clear hb hbox hg; obtain ⟨hcz114_0, hcz114_1, hcz114_2, hcz114_3, hcz114_4, hfz114_0, hfz114_1, hfz114_2, hfz114_3, hfz114_4⟩ := bx5 BK248.out))
            generalize hwb_ : (((((w113.setCell ⟨gb248, 0, none⟩ (.int .i64 ((rd_T75 l1 x13_1).f0))).setCell ⟨gb248, 1, none⟩ (.int .i64 ((rd_T75 l1 x13_1).f1))).setCell ⟨gb248, 2, none⟩ (.int .i64 ((rd_T75 l1 x13_1).f2))).setCell ⟨gb248, 3, none⟩ (.int .i64 ((rd_T75 l1 x13_1).f3))).setCell ⟨gb248, 4, none⟩ (.int .i64 ((rd_T75 l1 x13_1).f4))) = w115
            have n0_ := am (R_b5 hwb_.symm HO_8.out BK248.out (by decide))
            have n1_ := am (R_b5 hwb_.symm HO_10.out BK248.out (by decide))
            have n2_ := am (R_b5 hwb_.symm HO_11.out BK248.out (by decide))
            have n3_ := am (R_b5 hwb_.symm HO_12.out BK248.out (by decide))
            have n4_ := am (blk_b5 hwb_.symm BK248.out)
            have n5_ := am (below_b5 hwb_.symm HB.out GE248.out)
            (try clear HO_8)
            (try clear HO_10)
            (try clear HO_11)
            (try clear HO_12)
            (try clear BK248)
            (try clear HB)
            clear hwb_
            have HO_8 := n0_
            have HO_10 := n1_
            have HO_11 := n2_
            have HO_12 := n3_
            have BK248 := n4_
            have HB := n5_
            clear n0_ n1_ n2_ n3_ n4_ n5_
            have n0_ := am (Kd.R_drew HO_8.out)
            have n1_ := am (Kd.R_drew HO_10.out)
            have n2_ := am (Kd.R_drew HO_11.out)
            have n3_ := am (Kd.R_drew HO_12.out)
            have n4_ := am (blk_drew BK248.out)
            have n5_ := am (below_drew1 HB.out)
            clear HO_8; clear HO_10; clear HO_11; clear HO_12; clear BK248; clear HB
            have HO_8 := n0_
            have HO_10 := n1_
            have HO_11 := n2_
            have HO_12 := n3_
            have BK248 := n4_
            have HB := n5_
            clear n0_ n1_ n2_ n3_ n4_ n5_
            obtain ⟨Ao117, co117, eo117⟩ := Kd.R_slice HO_10.out
            (first | subst eo117 | (injection eo117 with f1_ f2_ f3_; have f4_ := f1_.symm; have f5_ := f3_.symm; clear f1_ f2_ f3_; subst f4_; subst f5_))
            have p272 : 0 ≤ (((rd_T75 l1 x13_1).f3) : Int) := od (by assumption)
            have q272 : ((rd_T75 l1 x13_1).f3) < (x10_1.length : Int) := od (by assumption)
            obtain ⟨ad272, e272, hx272_0⟩ := Kd.at_int (Kd.R_reads' HO_10.out).2.2 ((rd_T75 l1 x13_1).f3) p272 q272
            cases e272
            replace p272 := eq_true p272; replace q272 := eq_true q272
            have p273 : 0 ≤ (((rd_T75 l1 x13_1).f4) : Int) := od (by assumption)
            have q273 : ((rd_T75 l1 x13_1).f4) < (x10_1.length : Int) := od (by assumption)
            obtain ⟨ad273, e273, hx273_0⟩ := Kd.at_int (Kd.R_reads' HO_10.out).2.2 ((rd_T75 l1 x13_1).f4) p273 q273
            obtain rfl : ad272 = ad273 := (by injection e273)
            replace p273 := eq_true p273; replace q273 := eq_true q273
            refine start_ (n := 14) (S := fun w' => w'.cell? ⟨gb248, 0, none⟩ = some (.int .i64 ((rd_T75 l1 x13_1).f0)) ∧ w'.cell? ⟨gb248, 1, none⟩ = some (.int .i64 ((rd_T75 l1 x13_1).f1)) ∧ w'.cell? ⟨gb248, 2, none⟩ = some (.int .i64 ((rd_T75 l1 x13_1).f2)) ∧ w'.cell? ⟨gb248, 3, none⟩ = some (.int .i64 ((rd_T75 l1 x13_1).f3)) ∧ w'.cell? ⟨gb248, 4, none⟩ = some (.int .i64 ((rd_T75 l1 x13_1).f4)) ∧ w'.cell? (ad272.add (((rd_T75 l1 x13_1).f3)).toNat) = some (.int .i64 (rd x10_1 ((rd_T75 l1 x13_1).f3))) ∧ w'.cell? (ad272.add (((rd_T75 l1 x13_1).f4)).toNat) = some (.int .i64 (rd x10_1 ((rd_T75 l1 x13_1).f4)))) (ds := []) #[false, false, false, false, false, false, false, false, false, false, false, false, false, false] (by kernel_rfl) rfl rfl ⟨(blk_cell BK248.out 0).trans rfl, (blk_cell BK248.out 1).trans rfl, (blk_cell BK248.out 2).trans rfl, (blk_cell BK248.out 3).trans rfl, (blk_cell BK248.out 4).trans rfl, hx272_0, hx273_0⟩ (fun hHeld => ?_); refine with_tabW spec_l08Alone.tab29 spec_l08Alone.bits29 (fun HT_ HW_ => ?_)
            generalize w115.drew = w116 at HO_8 HO_10 HO_11 HO_12 BK248 HB hx272_0 hx273_0 hHeld ⊢
            refine pure_ (i := 0) (N := some 141) (v := ?_) (a' := ?_) #[true, false, false, false, false, false, false, false, false, false, false, false, false, false] rfl rfl (any_of HT_.out (by kernel_rfl)) (fun _ _ _ h => h) (Or.inl ⟨by rfl, ?_⟩) ?_ ?_
            rotate_left
            ·
             intro w'
             go_simp
             with_reducible rfl
            rotate_left
            ·
             simp only [Act.put, List.setIfInBounds_toArray, List.set_cons_zero, List.set_cons_succ, i64_w, i32_w]
             rfl
            refine pure_ (i := 2) (N := some 143) (v := ?_) (a' := ?_) #[true, false, true, false, false, false, false, false, false, false, false, false, false, false] rfl rfl (any_of HT_.out (by kernel_rfl)) (fun _ _ _ h => h) (Or.inl ⟨by rfl, ?_⟩) ?_ ?_
            rotate_left
            ·
             intro w'
             go_simp
             with_reducible rfl
            rotate_left
            ·
             simp only [Act.put, List.setIfInBounds_toArray, List.set_cons_zero, List.set_cons_succ, i64_w, i32_w]
             rfl
            refine pure_ (i := 3) (N := some 144) (v := ?_) (a' := ?_) #[true, false, true, true, false, false, false, false, false, false, false, false, false, false] rfl rfl (any_of HT_.out (by kernel_rfl)) (fun _ _ _ h => h) (Or.inl ⟨by rfl, ?_⟩) ?_ ?_
            rotate_left
            ·
             intro w'
             go_simp
             with_reducible rfl
            rotate_left
            ·
             simp only [Act.put, List.setIfInBounds_toArray, List.set_cons_zero, List.set_cons_succ, i64_w, i32_w]
             rfl
            refine pure_ (i := 4) (N := some 145) (v := ?_) (a' := ?_) #[true, false, true, true, true, false, false, false, false, false, false, false, false, false] rfl rfl (any_of HT_.out (by kernel_rfl)) (fun _ _ _ h => h) (Or.inl ⟨by rfl, ?_⟩) ?_ ?_
            rotate_left
            ·
             intro w'
             go_simp
             with_reducible rfl
            rotate_left
            ·
             simp only [Act.put, List.setIfInBounds_toArray, List.set_cons_zero, List.set_cons_succ, i64_w, i32_w]
             rfl
            refine pure_ (i := 8) (N := some 149) (v := ?_) (a' := ?_) #[true, false, true, true, true, false, false, false, true, false, false, false, false, false] rfl rfl (any_of HT_.out (by kernel_rfl)) (fun _ _ _ h => h) (Or.inl ⟨by rfl, ?_⟩) ?_ ?_
            rotate_left
            ·
             intro w'
             go_simp
             with_reducible rfl
            rotate_left
            ·
             simp only [Act.put, List.setIfInBounds_toArray, List.set_cons_zero, List.set_cons_succ, i64_w, i32_w]
             rfl
            refine pure_ (i := 9) (N := some 150) (v := ?_) (a' := ?_) #[true, false, true, true, true, false, false, false, true, true, false, false, false, false] rfl rfl (any_of HT_.out (by kernel_rfl)) (fun _ _ _ h => h) (Or.inl ⟨by rfl, ?_⟩) ?_ ?_
            rotate_left
            ·
             intro w'
             go_simp
             with_reducible rfl
            rotate_left
            ·
             simp only [Act.put, List.setIfInBounds_toArray, List.set_cons_zero, List.set_cons_succ, i64_w, i32_w]
             rfl
            refine take_ (i := 1) (N := some 142) (v := ?_) (a' := ?_) #[true, true, true, true, true, false, false, false, true, true, false, false, false, false] rfl rfl (take_ofW HT_.out HW_.out (by kernel_rfl)) (fun _ _ _ h => h) (Or.inl ⟨by rfl, ?_⟩) hHeld ?_ ?_
            rotate_left
            ·
             rintro w' ⟨s0, s1, s2, s3, s4, s5, s6⟩
             go_simp
             with_reducible rfl
            rotate_left
            ·
             simp only [Act.put, List.setIfInBounds_toArray, List.set_cons_zero, List.set_cons_succ, i64_w, i32_w]
             rfl
            refine take_ (i := 5) (N := some 146) (v := ?_) (a' := ?_) #[true, true, true, true, true, true, false, false, true, true, false, false, false, false] rfl rfl (take_ofW HT_.out HW_.out (by kernel_rfl)) (fun _ _ _ h => h) (Or.inl ⟨by rfl, ?_⟩) hHeld ?_ ?_
            rotate_left
            ·
             rintro w' ⟨s0, s1, s2, s3, s4, s5, s6⟩
             go_simp
             with_reducible rfl
            rotate_left
            ·
             simp only [Act.put, List.setIfInBounds_toArray, List.set_cons_zero, List.set_cons_succ, i64_w, i32_w]
             rfl
            refine pure_ (i := 6) (N := some 147) (v := ?_) (a' := ?_) #[true, true, true, true, true, true, true, false, true, true, false, false, false, false] rfl rfl (any_of HT_.out (by kernel_rfl)) (fun _ _ _ h => h) (Or.inl ⟨by rfl, ?_⟩) ?_ ?_
            rotate_left
            ·
             intro w'
             go_simp
             with_reducible rfl
            rotate_left
            ·
             simp only [Act.put, List.setIfInBounds_toArray, List.set_cons_zero, List.set_cons_succ, i64_w, i32_w]
             rfl
            refine take_ (i := 7) (N := some 148) (v := ?_) (a' := ?_) #[true, true, true, true, true, true, true, true, true, true, false, false, false, false] rfl rfl (take_ofW HT_.out HW_.out (by kernel_rfl)) (fun _ _ _ h => h) (Or.inl ⟨by rfl, ?_⟩) hHeld ?_ ?_
            rotate_left
            ·
             rintro w' ⟨s0, s1, s2, s3, s4, s5, s6⟩
             go_simp
             with_reducible rfl
            rotate_left
            ·
             simp only [Act.put, List.setIfInBounds_toArray, List.set_cons_zero, List.set_cons_succ, i64_w, i32_w]
             rfl
            refine take_ (i := 10) (N := some 151) (v := ?_) (a' := ?_) #[true, true, true, true, true, true, true, true, true, true, true, false, false, false] rfl rfl (take_ofW HT_.out HW_.out (by kernel_rfl)) (fun _ _ _ h => h) (Or.inl ⟨by rfl, ?_⟩) hHeld ?_ ?_
            rotate_left
            ·
             rintro w' ⟨s0, s1, s2, s3, s4, s5, s6⟩
             go_simp
             with_reducible rfl
            rotate_left
            ·
             simp only [Act.put, List.setIfInBounds_toArray, List.set_cons_zero, List.set_cons_succ, i64_w, i32_w]
             rfl
            refine pure_ (i := 11) (N := some 152) (v := ?_) (a' := ?_) #[true, true, true, true, true, true, true, true, true, true, true, true, false, false] rfl rfl (any_of HT_.out (by kernel_rfl)) (fun _ _ _ h => h) (Or.inl ⟨by rfl, ?_⟩) ?_ ?_
            rotate_left
            ·
             intro w'
             go_simp
             with_reducible rfl
            rotate_left
            ·
             simp only [Act.put, List.setIfInBounds_toArray, List.set_cons_zero, List.set_cons_succ, i64_w, i32_w]
             rfl
            refine take_ (i := 12) (N := some 153) (v := ?_) (a' := ?_) #[true, true, true, true, true, true, true, true, true, true, true, true, true, false] rfl rfl (take_ofW HT_.out HW_.out (by kernel_rfl)) (fun _ _ _ h => h) (Or.inl ⟨by rfl, ?_⟩) hHeld ?_ ?_
            rotate_left
            ·
             rintro w' ⟨s0, s1, s2, s3, s4, s5, s6⟩
             go_simp
             with_reducible rfl
            rotate_left
            ·
             simp only [Act.put, List.setIfInBounds_toArray, List.set_cons_zero, List.set_cons_succ, i64_w, i32_w]
             rfl
            refine one_ (i := 13) (N := some 154) #[true, true, true, true, true, true, true, true, true, true, true, true, true, true] rfl rfl (one_of HT_.out (by kernel_rfl)) (by decide) (fun K hK => ?_)
            refine goes_ Try.func103 (by kernel_rfl) rfl #[.int .i64 ((rd_T75 l1 x13_1).f2), .int .i64 a0, .int .i64 (rd x10_1 ((rd_T75 l1 x13_1).f3)), .int .i64 (rd x10_1 ((rd_T75 l1 x13_1).f4))] (by rfl) rfl rfl (by (try simp only [List.map_toArray, List.map_cons, List.map_nil]); first | done | rfl | (simp only [List.length_drop, List.length_take]; rfl)) ?_
            with_reducible refine (spec_l01Test.calls ((rd_T75 l1 x13_1).f2) a0 (rd x10_1 ((rd_T75 l1 x13_1).f3)) (rd x10_1 ((rd_T75 l1 x13_1).f4)) true _ A110.out).mono ?_
            rintro e w' ⟨rfl, ⟨nd, rfl⟩⟩
            refine ⟨_, rfl, ?_⟩
            refine hK.out _ _ ⟨(blk_cell BK248.out 0).trans rfl, (blk_cell BK248.out 1).trans rfl, (blk_cell BK248.out 2).trans rfl, (blk_cell BK248.out 3).trans rfl, (blk_cell BK248.out 4).trans rfl, hHeld.2.2.2.2.2.1, hHeld.2.2.2.2.2.2⟩ (fun hHeld => ?_)
            clear hK K
            refine norm_ (a' := ?_) ?_ ?_
            rotate_left
            ·
             show Act.put _ (some 154) _ = _
             simp only [Act.put, List.setIfInBounds_toArray, List.set_cons_zero, List.set_cons_succ, i64_w, i32_w]
             rfl
            refine done_ (done_of HT_.out (by kernel_rfl)) ?_
            obtain ⟨Ao118, co118, eo118⟩ := Kd.R_slice HO_8.out
            subst eo118
            have p275 : 0 ≤ (x13_1 : Int) := od (by assumption)
            have q275 : x13_1 < (t234.length : Int) := od (by assumption)
            obtain ⟨ad275, e275, hx275_0⟩ := Kd.at_int (Kd.R_reads' HO_8.out).2.2 x13_1 p275 q275
            cases e275
            replace p275 := eq_true p275; replace q275 := eq_true q275
            try go_wp2
            go_roundg k1
            case measure => have := HK1.out; omega
            case rel => exact ⟨(x10_1), (x11_1), (x12_1), (wrap64 ((rd t234 x13_1) + 1)), (by first | rfl | (simp; done) | (simp [*]; done)), H', ⟨by have := HK1.out; omega⟩, ⟨by first | exact rst HO_8.out | exact Kd.R_mono (rst HO_8.out) (by intro k_ hk_; simpa only [ob_eq] using hk_)⟩, ⟨by first | exact rst HO_10.out | exact Kd.R_mono (rst HO_10.out) (by intro k_ hk_; simpa only [ob_eq] using hk_)⟩, ⟨by first | exact rst HO_11.out | exact Kd.R_mono (rst HO_11.out) (by intro k_ hk_; simpa only [ob_eq] using hk_)⟩, ⟨by first | exact rst HO_12.out | exact Kd.R_mono (rst HO_12.out) (by intro k_ hk_; simpa only [ob_eq] using hk_)⟩, ⟨by repeat (first | (with_reducible first | exact HB.out | apply below_alloc | apply pw_below_drewN | apply below_drew1 | refine below_set ?_ GE248.out) | exact HB.out)⟩⟩
           ·
            replace c111 := Bool.eq_false_iff.mpr c111
            subst c111
            have H1 : (spec_l08Alone.l0 k1 a0 l1 t234 x10_1 x11_1 x12_1 (wrap64 (x13_1 + 1))) = some (r1, r2) := by rw [if_neg (show ¬ (false = true) by decide)] at H; exact H
            clear H
            have H := H1
            clear H1; have H' := am H; clear H
            have p247 : 0 ≤ (x13_1 : Int) := od (by assumption)
            have q247 : x13_1 < (l1.length : Int) := od (by assumption)
            obtain ⟨ad247, e247, hx247_0, hx247_1, hx247_2, hx247_3, hx247_4⟩ := at_T75 HR1.out x13_1 p247 q247
            cases e247
            replace hx247_0 := bc HB hx247_0
            replace hx247_1 := bc HB hx247_1
            replace hx247_2 := bc HB hx247_2
            replace hx247_3 := bc HB hx247_3
            replace hx247_4 := bc HB hx247_4
            replace p247 := eq_true p247; replace q247 := eq_true q247
            try go_wp2_with (first | ((with_reducible refine gate_dst (N := 14) rfl ?_); refine box_event ?hg (N := 14) ?hd (cs := #[.int .i64 0, .int .i64 0, .int .i64 0, .int .i64 0, .int .i64 0]) (t := 75) ?hr ?_; (case hd => rfl); (case hg => rfl); (case hr => first | (go_simp; done) | (go_simp; rfl)); intro gb248 hg w119 hbox hb; have n0_ := am (Kd.R_below (rst HO_8.out) hb); have n1_ := am (Kd.R_below (rst HO_10.out) hb); have n2_ := am (Kd.R_below (rst HO_11.out) hb); have n3_ := am (Kd.R_below (rst HO_12.out) hb); have n4_ := am (below_step (bst HB) hb); have n5_ := am (hbox); have n6_ := am ((by rw [hg]; exact (below_size (bst HB)) : w.heap.size ≤ gb248)); have n7_ := am ((by rw [hg]; exact (below_size (bst HB)) : w.heap.size ≤ gb248)); clear HO_8; clear HO_10; clear HO_11; clear HO_12; clear HB; have HO_8 := n0_; have HO_10 := n1_; have HO_11 := n2_; have HO_12 := n3_; have HB := n4_; have BK248 := n5_; have GW248 := n6_; have GE248 := n7_; clear n0_ n1_ n2_ n3_ n4_ n5_ n6_ n7_; clear hb hbox hg; obtain ⟨hcz120_0, hcz120_1, hcz120_2, hcz120_3, hcz120_4, hfz120_0, hfz120_1, hfz120_2, hfz120_3, hfz120_4⟩ := bx5 BK248.out))
            generalize hwb_ : (((((w119.setCell ⟨gb248, 0, none⟩ (.int .i64 ((rd_T75 l1 x13_1).f0))).setCell ⟨gb248, 1, none⟩ (.int .i64 ((rd_T75 l1 x13_1).f1))).setCell ⟨gb248, 2, none⟩ (.int .i64 ((rd_T75 l1 x13_1).f2))).setCell ⟨gb248, 3, none⟩ (.int .i64 ((rd_T75 l1 x13_1).f3))).setCell ⟨gb248, 4, none⟩ (.int .i64 ((rd_T75 l1 x13_1).f4))) = w121
            have n0_ := am (R_b5 hwb_.symm HO_8.out BK248.out (by decide))
            have n1_ := am (R_b5 hwb_.symm HO_10.out BK248.out (by decide))
            have n2_ := am (R_b5 hwb_.symm HO_11.out BK248.out (by decide))
            have n3_ := am (R_b5 hwb_.symm HO_12.out BK248.out (by decide))
            have n4_ := am (blk_b5 hwb_.symm BK248.out)
            have n5_ := am (below_b5 hwb_.symm HB.out GE248.out)
            (try clear HO_8)
            (try clear HO_10)
            (try clear HO_11)
            (try clear HO_12)
            (try clear BK248)
            (try clear HB)
            clear hwb_
            have HO_8 := n0_
            have HO_10 := n1_
            have HO_11 := n2_
            have HO_12 := n3_
            have BK248 := n4_
            have HB := n5_
            clear n0_ n1_ n2_ n3_ n4_ n5_
            have n0_ := am (Kd.R_drew HO_8.out)
            have n1_ := am (Kd.R_drew HO_10.out)
            have n2_ := am (Kd.R_drew HO_11.out)
            have n3_ := am (Kd.R_drew HO_12.out)
            have n4_ := am (blk_drew BK248.out)
            have n5_ := am (below_drew1 HB.out)
            clear HO_8; clear HO_10; clear HO_11; clear HO_12; clear BK248; clear HB
            have HO_8 := n0_
            have HO_10 := n1_
            have HO_11 := n2_
            have HO_12 := n3_
            have BK248 := n4_
            have HB := n5_
            clear n0_ n1_ n2_ n3_ n4_ n5_
            obtain ⟨Ao123, co123, eo123⟩ := Kd.R_slice HO_10.out
            (first | subst eo123 | (injection eo123 with f1_ f2_ f3_; have f4_ := f1_.symm; have f5_ := f3_.symm; clear f1_ f2_ f3_; subst f4_; subst f5_))
            have p272 : 0 ≤ (((rd_T75 l1 x13_1).f3) : Int) := od (by assumption)
            have q272 : ((rd_T75 l1 x13_1).f3) < (x10_1.length : Int) := od (by assumption)
            obtain ⟨ad272, e272, hx272_0⟩ := Kd.at_int (Kd.R_reads' HO_10.out).2.2 ((rd_T75 l1 x13_1).f3) p272 q272
            cases e272
            replace p272 := eq_true p272; replace q272 := eq_true q272
            have p273 : 0 ≤ (((rd_T75 l1 x13_1).f4) : Int) := od (by assumption)
            have q273 : ((rd_T75 l1 x13_1).f4) < (x10_1.length : Int) := od (by assumption)
            obtain ⟨ad273, e273, hx273_0⟩ := Kd.at_int (Kd.R_reads' HO_10.out).2.2 ((rd_T75 l1 x13_1).f4) p273 q273
            obtain rfl : ad272 = ad273 := (by injection e273)
            replace p273 := eq_true p273; replace q273 := eq_true q273
            refine start_ (n := 14) (S := fun w' => w'.cell? ⟨gb248, 0, none⟩ = some (.int .i64 ((rd_T75 l1 x13_1).f0)) ∧ w'.cell? ⟨gb248, 1, none⟩ = some (.int .i64 ((rd_T75 l1 x13_1).f1)) ∧ w'.cell? ⟨gb248, 2, none⟩ = some (.int .i64 ((rd_T75 l1 x13_1).f2)) ∧ w'.cell? ⟨gb248, 3, none⟩ = some (.int .i64 ((rd_T75 l1 x13_1).f3)) ∧ w'.cell? ⟨gb248, 4, none⟩ = some (.int .i64 ((rd_T75 l1 x13_1).f4)) ∧ w'.cell? (ad272.add (((rd_T75 l1 x13_1).f3)).toNat) = some (.int .i64 (rd x10_1 ((rd_T75 l1 x13_1).f3))) ∧ w'.cell? (ad272.add (((rd_T75 l1 x13_1).f4)).toNat) = some (.int .i64 (rd x10_1 ((rd_T75 l1 x13_1).f4)))) (ds := []) #[false, false, false, false, false, false, false, false, false, false, false, false, false, false] (by kernel_rfl) rfl rfl ⟨(blk_cell BK248.out 0).trans rfl, (blk_cell BK248.out 1).trans rfl, (blk_cell BK248.out 2).trans rfl, (blk_cell BK248.out 3).trans rfl, (blk_cell BK248.out 4).trans rfl, hx272_0, hx273_0⟩ (fun hHeld => ?_); refine with_tabW spec_l08Alone.tab29 spec_l08Alone.bits29 (fun HT_ HW_ => ?_)
            generalize w121.drew = w122 at HO_8 HO_10 HO_11 HO_12 BK248 HB hx272_0 hx273_0 hHeld ⊢
            refine pure_ (i := 0) (N := some 141) (v := ?_) (a' := ?_) #[true, false, false, false, false, false, false, false, false, false, false, false, false, false] rfl rfl (any_of HT_.out (by kernel_rfl)) (fun _ _ _ h => h) (Or.inl ⟨by rfl, ?_⟩) ?_ ?_
            rotate_left
            ·
             intro w'
             go_simp
             with_reducible rfl
            rotate_left
            ·
             simp only [Act.put, List.setIfInBounds_toArray, List.set_cons_zero, List.set_cons_succ, i64_w, i32_w]
             rfl
            refine pure_ (i := 2) (N := some 143) (v := ?_) (a' := ?_) #[true, false, true, false, false, false, false, false, false, false, false, false, false, false] rfl rfl (any_of HT_.out (by kernel_rfl)) (fun _ _ _ h => h) (Or.inl ⟨by rfl, ?_⟩) ?_ ?_
            rotate_left
            ·
             intro w'
             go_simp
             with_reducible rfl
            rotate_left
            ·
             simp only [Act.put, List.setIfInBounds_toArray, List.set_cons_zero, List.set_cons_succ, i64_w, i32_w]
             rfl
            refine pure_ (i := 3) (N := some 144) (v := ?_) (a' := ?_) #[true, false, true, true, false, false, false, false, false, false, false, false, false, false] rfl rfl (any_of HT_.out (by kernel_rfl)) (fun _ _ _ h => h) (Or.inl ⟨by rfl, ?_⟩) ?_ ?_
            rotate_left
            ·
             intro w'
             go_simp
             with_reducible rfl
            rotate_left
            ·
             simp only [Act.put, List.setIfInBounds_toArray, List.set_cons_zero, List.set_cons_succ, i64_w, i32_w]
             rfl
            refine pure_ (i := 4) (N := some 145) (v := ?_) (a' := ?_) #[true, false, true, true, true, false, false, false, false, false, false, false, false, false] rfl rfl (any_of HT_.out (by kernel_rfl)) (fun _ _ _ h => h) (Or.inl ⟨by rfl, ?_⟩) ?_ ?_
            rotate_left
            ·
             intro w'
             go_simp
             with_reducible rfl
            rotate_left
            ·
             simp only [Act.put, List.setIfInBounds_toArray, List.set_cons_zero, List.set_cons_succ, i64_w, i32_w]
             rfl
            refine pure_ (i := 8) (N := some 149) (v := ?_) (a' := ?_) #[true, false, true, true, true, false, false, false, true, false, false, false, false, false] rfl rfl (any_of HT_.out (by kernel_rfl)) (fun _ _ _ h => h) (Or.inl ⟨by rfl, ?_⟩) ?_ ?_
            rotate_left
            ·
             intro w'
             go_simp
             with_reducible rfl
            rotate_left
            ·
             simp only [Act.put, List.setIfInBounds_toArray, List.set_cons_zero, List.set_cons_succ, i64_w, i32_w]
             rfl
            refine pure_ (i := 9) (N := some 150) (v := ?_) (a' := ?_) #[true, false, true, true, true, false, false, false, true, true, false, false, false, false] rfl rfl (any_of HT_.out (by kernel_rfl)) (fun _ _ _ h => h) (Or.inl ⟨by rfl, ?_⟩) ?_ ?_
            rotate_left
            ·
             intro w'
             go_simp
             with_reducible rfl
            rotate_left
            ·
             simp only [Act.put, List.setIfInBounds_toArray, List.set_cons_zero, List.set_cons_succ, i64_w, i32_w]
             rfl
            refine take_ (i := 1) (N := some 142) (v := ?_) (a' := ?_) #[true, true, true, true, true, false, false, false, true, true, false, false, false, false] rfl rfl (take_ofW HT_.out HW_.out (by kernel_rfl)) (fun _ _ _ h => h) (Or.inl ⟨by rfl, ?_⟩) hHeld ?_ ?_
            rotate_left
            ·
             rintro w' ⟨s0, s1, s2, s3, s4, s5, s6⟩
             go_simp
             with_reducible rfl
            rotate_left
            ·
             simp only [Act.put, List.setIfInBounds_toArray, List.set_cons_zero, List.set_cons_succ, i64_w, i32_w]
             rfl
            refine take_ (i := 5) (N := some 146) (v := ?_) (a' := ?_) #[true, true, true, true, true, true, false, false, true, true, false, false, false, false] rfl rfl (take_ofW HT_.out HW_.out (by kernel_rfl)) (fun _ _ _ h => h) (Or.inl ⟨by rfl, ?_⟩) hHeld ?_ ?_
            rotate_left
            ·
             rintro w' ⟨s0, s1, s2, s3, s4, s5, s6⟩
             go_simp
             with_reducible rfl
            rotate_left
            ·
             simp only [Act.put, List.setIfInBounds_toArray, List.set_cons_zero, List.set_cons_succ, i64_w, i32_w]
             rfl
            refine pure_ (i := 6) (N := some 147) (v := ?_) (a' := ?_) #[true, true, true, true, true, true, true, false, true, true, false, false, false, false] rfl rfl (any_of HT_.out (by kernel_rfl)) (fun _ _ _ h => h) (Or.inl ⟨by rfl, ?_⟩) ?_ ?_
            rotate_left
            ·
             intro w'
             go_simp
             with_reducible rfl
            rotate_left
            ·
             simp only [Act.put, List.setIfInBounds_toArray, List.set_cons_zero, List.set_cons_succ, i64_w, i32_w]
             rfl
            refine take_ (i := 7) (N := some 148) (v := ?_) (a' := ?_) #[true, true, true, true, true, true, true, true, true, true, false, false, false, false] rfl rfl (take_ofW HT_.out HW_.out (by kernel_rfl)) (fun _ _ _ h => h) (Or.inl ⟨by rfl, ?_⟩) hHeld ?_ ?_
            rotate_left
            ·
             rintro w' ⟨s0, s1, s2, s3, s4, s5, s6⟩
             go_simp
             with_reducible rfl
            rotate_left
            ·
             simp only [Act.put, List.setIfInBounds_toArray, List.set_cons_zero, List.set_cons_succ, i64_w, i32_w]
             rfl
            refine take_ (i := 10) (N := some 151) (v := ?_) (a' := ?_) #[true, true, true, true, true, true, true, true, true, true, true, false, false, false] rfl rfl (take_ofW HT_.out HW_.out (by kernel_rfl)) (fun _ _ _ h => h) (Or.inl ⟨by rfl, ?_⟩) hHeld ?_ ?_
            rotate_left
            ·
             rintro w' ⟨s0, s1, s2, s3, s4, s5, s6⟩
             go_simp
             with_reducible rfl
            rotate_left
            ·
             simp only [Act.put, List.setIfInBounds_toArray, List.set_cons_zero, List.set_cons_succ, i64_w, i32_w]
             rfl
            refine pure_ (i := 11) (N := some 152) (v := ?_) (a' := ?_) #[true, true, true, true, true, true, true, true, true, true, true, true, false, false] rfl rfl (any_of HT_.out (by kernel_rfl)) (fun _ _ _ h => h) (Or.inl ⟨by rfl, ?_⟩) ?_ ?_
            rotate_left
            ·
             intro w'
             go_simp
             with_reducible rfl
            rotate_left
            ·
             simp only [Act.put, List.setIfInBounds_toArray, List.set_cons_zero, List.set_cons_succ, i64_w, i32_w]
             rfl
            refine take_ (i := 12) (N := some 153) (v := ?_) (a' := ?_) #[true, true, true, true, true, true, true, true, true, true, true, true, true, false] rfl rfl (take_ofW HT_.out HW_.out (by kernel_rfl)) (fun _ _ _ h => h) (Or.inl ⟨by rfl, ?_⟩) hHeld ?_ ?_
            rotate_left
            ·
             rintro w' ⟨s0, s1, s2, s3, s4, s5, s6⟩
             go_simp
             with_reducible rfl
            rotate_left
            ·
             simp only [Act.put, List.setIfInBounds_toArray, List.set_cons_zero, List.set_cons_succ, i64_w, i32_w]
             rfl
            refine one_ (i := 13) (N := some 154) #[true, true, true, true, true, true, true, true, true, true, true, true, true, true] rfl rfl (one_of HT_.out (by kernel_rfl)) (by decide) (fun K hK => ?_)
            refine goes_ Try.func103 (by kernel_rfl) rfl #[.int .i64 ((rd_T75 l1 x13_1).f2), .int .i64 a0, .int .i64 (rd x10_1 ((rd_T75 l1 x13_1).f3)), .int .i64 (rd x10_1 ((rd_T75 l1 x13_1).f4))] (by rfl) rfl rfl (by (try simp only [List.map_toArray, List.map_cons, List.map_nil]); first | done | rfl | (simp only [List.length_drop, List.length_take]; rfl)) ?_
            with_reducible refine (spec_l01Test.calls ((rd_T75 l1 x13_1).f2) a0 (rd x10_1 ((rd_T75 l1 x13_1).f3)) (rd x10_1 ((rd_T75 l1 x13_1).f4)) false _ A110.out).mono ?_
            rintro e w' ⟨rfl, ⟨nd, rfl⟩⟩
            refine ⟨_, rfl, ?_⟩
            refine hK.out _ _ ⟨(blk_cell BK248.out 0).trans rfl, (blk_cell BK248.out 1).trans rfl, (blk_cell BK248.out 2).trans rfl, (blk_cell BK248.out 3).trans rfl, (blk_cell BK248.out 4).trans rfl, hHeld.2.2.2.2.2.1, hHeld.2.2.2.2.2.2⟩ (fun hHeld => ?_)
            clear hK K
            refine norm_ (a' := ?_) ?_ ?_
            rotate_left
            ·
             show Act.put _ (some 154) _ = _
             simp only [Act.put, List.setIfInBounds_toArray, List.set_cons_zero, List.set_cons_succ, i64_w, i32_w]
             rfl
            refine done_ (done_of HT_.out (by kernel_rfl)) ?_
            try go_wp2
            go_roundg k1
            case measure => have := HK1.out; omega
            case rel => exact ⟨(x10_1), (x11_1), (x12_1), (wrap64 (x13_1 + 1)), (by first | rfl | (simp; done) | (simp [*]; done)), H', ⟨by have := HK1.out; omega⟩, ⟨by first | exact rst HO_8.out | exact Kd.R_mono (rst HO_8.out) (by intro k_ hk_; simpa only [ob_eq] using hk_)⟩, ⟨by first | exact rst HO_10.out | exact Kd.R_mono (rst HO_10.out) (by intro k_ hk_; simpa only [ob_eq] using hk_)⟩, ⟨by first | exact rst HO_11.out | exact Kd.R_mono (rst HO_11.out) (by intro k_ hk_; simpa only [ob_eq] using hk_)⟩, ⟨by first | exact rst HO_12.out | exact Kd.R_mono (rst HO_12.out) (by intro k_ hk_; simpa only [ob_eq] using hk_)⟩, ⟨by repeat (first | (with_reducible first | exact HB.out | apply below_alloc | apply pw_below_drewN | apply below_drew1 | refine below_set ?_ GE248.out) | exact HB.out)⟩⟩
          ·
           rw [if_neg c105] at H
           have c105b0 : (((rd_T75 l1 x13_1).f0) == 6) = false := beq_eq_false_iff_ne.mpr c105
           have c105b1 : (((rd_T75 l1 x13_1).f0) != 6) = true := bne_iff_ne.mpr c105
           have H' := am H; clear H
           have p247 : 0 ≤ (x13_1 : Int) := od (by assumption)
           have q247 : x13_1 < (l1.length : Int) := od (by assumption)
           obtain ⟨ad247, e247, hx247_0, hx247_1, hx247_2, hx247_3, hx247_4⟩ := at_T75 HR1.out x13_1 p247 q247
           cases e247
           replace hx247_0 := bc HB hx247_0
           replace hx247_1 := bc HB hx247_1
           replace hx247_2 := bc HB hx247_2
           replace hx247_3 := bc HB hx247_3
           replace hx247_4 := bc HB hx247_4
           replace p247 := eq_true p247; replace q247 := eq_true q247
           go_wp2_with (first | ((with_reducible refine gate_dst (N := 14) rfl ?_); refine box_event ?hg (N := 14) ?hd (cs := #[.int .i64 0, .int .i64 0, .int .i64 0, .int .i64 0, .int .i64 0]) (t := 75) ?hr ?_; (case hd => rfl); (case hg => rfl); (case hr => first | (go_simp; done) | (go_simp; rfl)); intro gb248 hg w124 hbox hb; have n0_ := am (Kd.R_below (rst HO_8.out) hb); have n1_ := am (Kd.R_below (rst HO_10.out) hb); have n2_ := am (Kd.R_below (rst HO_11.out) hb); have n3_ := am (Kd.R_below (rst HO_12.out) hb); have n4_ := am (below_step (bst HB) hb); have n5_ := am (hbox); have n6_ := am ((by rw [hg]; exact (below_size (bst HB)) : w.heap.size ≤ gb248)); have n7_ := am ((by rw [hg]; exact (below_size (bst HB)) : w.heap.size ≤ gb248)); clear HO_8; clear HO_10; clear HO_11; clear HO_12; clear HB; have HO_8 := n0_; have HO_10 := n1_; have HO_11 := n2_; have HO_12 := n3_; have HB := n4_; have BK248 := n5_; have GW248 := n6_; have GE248 := n7_; clear n0_ n1_ n2_ n3_ n4_ n5_ n6_ n7_; clear hb hbox hg; obtain ⟨hcz125_0, hcz125_1, hcz125_2, hcz125_3, hcz125_4, hfz125_0, hfz125_1, hfz125_2, hfz125_3, hfz125_4⟩ := bx5 BK248.out))
           go_roundg k1
           case measure => have := HK1.out; omega
           case rel => exact ⟨(x10_1), (x11_1), (x12_1), (wrap64 (x13_1 + 1)), (by first | rfl | (simp; done) | (simp [*]; done)), H', ⟨by have := HK1.out; omega⟩, ⟨by (with_reducible repeat (first | apply Kd.R_alloc | apply Kd.R_drewN | apply Kd.R_drew)); exact Kd.R_mono (Kd.R_far (p := ⟨gb248, 4, none⟩) (Kd.R_far (p := ⟨gb248, 3, none⟩) (Kd.R_far (p := ⟨gb248, 2, none⟩) (Kd.R_far (p := ⟨gb248, 1, none⟩) (Kd.R_far (p := ⟨gb248, 0, none⟩) (Kd.R_types HO_8.out BK248.out (by decide)) (fun _ hk => hk.2) (.int .i64 ((rd_T75 l1 x13_1).f0))) (fun _ hk => hk.2) (.int .i64 ((rd_T75 l1 x13_1).f1))) (fun _ hk => hk.2) (.int .i64 ((rd_T75 l1 x13_1).f2))) (fun _ hk => hk.2) (.int .i64 ((rd_T75 l1 x13_1).f3))) (fun _ hk => hk.2) (.int .i64 ((rd_T75 l1 x13_1).f4))) (fun _ hk => ⟨hk.1.1, ⟨hk.1.2.1, hk.1.2.2⟩⟩)⟩, ⟨by (with_reducible repeat (first | apply Kd.R_alloc | apply Kd.R_drewN | apply Kd.R_drew)); exact Kd.R_mono (Kd.R_far (p := ⟨gb248, 4, none⟩) (Kd.R_far (p := ⟨gb248, 3, none⟩) (Kd.R_far (p := ⟨gb248, 2, none⟩) (Kd.R_far (p := ⟨gb248, 1, none⟩) (Kd.R_far (p := ⟨gb248, 0, none⟩) (Kd.R_types HO_10.out BK248.out (by decide)) (fun _ hk => hk.2) (.int .i64 ((rd_T75 l1 x13_1).f0))) (fun _ hk => hk.2) (.int .i64 ((rd_T75 l1 x13_1).f1))) (fun _ hk => hk.2) (.int .i64 ((rd_T75 l1 x13_1).f2))) (fun _ hk => hk.2) (.int .i64 ((rd_T75 l1 x13_1).f3))) (fun _ hk => hk.2) (.int .i64 ((rd_T75 l1 x13_1).f4))) (fun _ hk => ⟨hk.1.1, ⟨hk.1.2.1, hk.1.2.2⟩⟩)⟩, ⟨by (with_reducible repeat (first | apply Kd.R_alloc | apply Kd.R_drewN | apply Kd.R_drew)); exact Kd.R_mono (Kd.R_far (p := ⟨gb248, 4, none⟩) (Kd.R_far (p := ⟨gb248, 3, none⟩) (Kd.R_far (p := ⟨gb248, 2, none⟩) (Kd.R_far (p := ⟨gb248, 1, none⟩) (Kd.R_far (p := ⟨gb248, 0, none⟩) (Kd.R_types HO_11.out BK248.out (by decide)) (fun _ hk => hk.2) (.int .i64 ((rd_T75 l1 x13_1).f0))) (fun _ hk => hk.2) (.int .i64 ((rd_T75 l1 x13_1).f1))) (fun _ hk => hk.2) (.int .i64 ((rd_T75 l1 x13_1).f2))) (fun _ hk => hk.2) (.int .i64 ((rd_T75 l1 x13_1).f3))) (fun _ hk => hk.2) (.int .i64 ((rd_T75 l1 x13_1).f4))) (fun _ hk => ⟨hk.1.1, ⟨hk.1.2.1, hk.1.2.2⟩⟩)⟩, ⟨by (with_reducible repeat (first | apply Kd.R_alloc | apply Kd.R_drewN | apply Kd.R_drew)); exact Kd.R_mono (Kd.R_far (p := ⟨gb248, 4, none⟩) (Kd.R_far (p := ⟨gb248, 3, none⟩) (Kd.R_far (p := ⟨gb248, 2, none⟩) (Kd.R_far (p := ⟨gb248, 1, none⟩) (Kd.R_far (p := ⟨gb248, 0, none⟩) (Kd.R_types HO_12.out BK248.out (by decide)) (fun _ hk => hk.2) (.int .i64 ((rd_T75 l1 x13_1).f0))) (fun _ hk => hk.2) (.int .i64 ((rd_T75 l1 x13_1).f1))) (fun _ hk => hk.2) (.int .i64 ((rd_T75 l1 x13_1).f2))) (fun _ hk => hk.2) (.int .i64 ((rd_T75 l1 x13_1).f3))) (fun _ hk => hk.2) (.int .i64 ((rd_T75 l1 x13_1).f4))) (fun _ hk => ⟨hk.1.1, ⟨hk.1.2.1, hk.1.2.2⟩⟩)⟩, ⟨by repeat (first | (with_reducible first | exact HB.out | apply below_alloc | apply pw_below_drewN | apply below_drew1 | refine below_set ?_ GE248.out) | exact HB.out)⟩⟩
   ·
    rw [if_neg c14] at H
    have c14b0 : decide (x13_1 < (l1.length : Int)) = false := decide_eq_false c14
    clear c14
    simp only [Option.some.injEq, Prod.mk.injEq] at H
    obtain ⟨rfl, rfl⟩ := H
    go_wp2
    go_ret2
    exact ⟨_, _, by first | rfl | (simp [errW_none, errW_some] <;> rfl) | (simp [*, errW_none, errW_some] <;> rfl), by (with_reducible repeat (first | apply Kd.R_alloc | apply Kd.R_drewN | apply Kd.R_drew)); exact Kd.R_mono HO_10.out (fun _ hk => hk.2.1), by (with_reducible repeat (first | apply Kd.R_alloc | apply Kd.R_drewN | apply Kd.R_drew)); exact Kd.R_mono HO_11.out (fun _ hk => hk.2.1), by repeat (first | (with_reducible first | exact HB.out | apply below_alloc | apply pw_below_drewN | apply below_drew1) | exact HB.out)⟩
end Go.Proofs.Ytfpcfaapoeeipaa.P
namespace Go.Proofs.Ytfpcfaapoeeipaa.P
open Go.RowKit Go.Proofs.YtfpcfaapoeeipaaW.PrintWords Go.Proofs.YtfpcfaapoeeipaaW.PrintLast Go.Proofs.YtfpcfaapoeeipaaW.PrintMore
attribute [local go_sem] max2_int min2_int max_two min_two
set_option linter.unusedVariables false
set_option linter.unusedSimpArgs false
theorem eqA75 (d : Nat) (w : World) (x0 y0 : Int) (x1 y1 : Int) (x2 y2 : Int) (x3 y3 : Int) (x4 y4 : Int) :
    (Op.equalIn (d + 2) 75 (.agg #[.int .i64 x0, .int .i64 x1, .int .i64 x2, .int .i64 x3, .int .i64 x4]) (.agg #[.int .i64 y0, .int .i64 y1, .int .i64 y2, .int .i64 y3, .int .i64 y4])).run Try.prog w = .ok (x0 == y0 && (x1 == y1 && (x2 == y2 && (x3 == y3 && (x4 == y4))))) w := by
  refine eqA_of Try.underlying75 (by kernel_rfl) ?_
  refine eqf_cons (by rfl) (by go_simp; rfl) (by go_simp; rfl) (by go_simp) ?_
  refine eqf_cons (by rfl) (by go_simp; rfl) (by go_simp; rfl) (by go_simp) ?_
  refine eqf_cons (by rfl) (by go_simp; rfl) (by go_simp; rfl) (by go_simp) ?_
  refine eqf_cons (by rfl) (by go_simp; rfl) (by go_simp; rfl) (by go_simp) ?_
  exact eqf_last (by rfl) (by go_simp; rfl) (by go_simp; rfl) (by go_simp)
end Go.Proofs.Ytfpcfaapoeeipaa.P
namespace Go.Proofs.Ytfpcfaapoeeipaa.P
open Go.RowKit Go.Proofs.YtfpcfaapoeeipaaW.PrintWords Go.Proofs.YtfpcfaapoeeipaaW.PrintLast Go.Proofs.YtfpcfaapoeeipaaW.PrintMore
attribute [local go_sem] max2_int min2_int max_two min_two
set_option linter.unusedVariables false
set_option linter.unusedSimpArgs false
attribute [local go_sem high] eqA75
mutual
def impl_isLine.j0 : Nat → Int → Bool → Int → Int → Int → Int → Int → Option (Bool)
 | 0, _, _, _, _, _, _, _ => none
 | k + 1, x6, x48, x302000, x302001, x302002, x302003, x302004 => if x48 = true then (if x302001 = 0 then ((impl_isCmp.f x302002).bind fun t308 => (if t308 = true then ((impl_isVar.f x302003).bind fun t309 => (if t309 = true then ((impl_isVar.f x302004).bind fun t310 => (some t310)) else (some false))) else (some false))) else (some false)) else (if x6 = 3 then (impl_isLine.j1 k x6 (x6 == 3) x302000 x302001 x302002 x302003 x302004) else (impl_isLine.j1 k x6 (x6 == 4) x302000 x302001 x302002 x302003 x302004))
def impl_isLine.j1 : Nat → Int → Bool → Int → Int → Int → Int → Int → Option (Bool)
 | 0, _, _, _, _, _, _, _ => none
 | k + 1, x6, x69, x302000, x302001, x302002, x302003, x302004 => if x69 = true then (some (x302001 == 0 && (x302002 == 0 && (x302003 == 0 && (x302004 == 0))))) else (if x6 = 5 then (if (x302000 == 5 && (x302001 == 0 && (x302002 == 0 && (x302003 == 0)))) = true then ((impl_within.f x302004 1 8).bind fun t311 => (some t311)) else (some false)) else (some false))
end
def impl_isLine.f (k : Nat) (a0 : Int) (a1_0 : Int) (a1_1 : Int) (a1_2 : Int) (a1_3 : Int) (a1_4 : Int) : Option (Bool) := if a1_0 = 0 then ((impl_isVar.f a1_1).bind fun t302 => (if t302 = true then ((impl_isOp.f a1_2).bind fun t303 => (if t303 = true then ((impl_isVar.f a1_3).bind fun t304 => (if t304 = true then ((impl_isVar.f a1_4).bind fun t305 => (some t305)) else (some false))) else (some false))) else (some false))) else (if a1_0 = 1 then ((impl_isVar.f a1_1).bind fun t306 => (if t306 = true then (if a1_2 = 0 then (if a1_3 = 0 then ((impl_IsWord.f a0 a1_4).bind fun t307 => (some t307)) else (some false)) else (some false)) else (some false))) else (if a1_0 = 2 then (impl_isLine.j0 k a1_0 (a1_0 == 2) a1_0 a1_1 a1_2 a1_3 a1_4) else (impl_isLine.j0 k a1_0 (a1_0 == 6) a1_0 a1_1 a1_2 a1_3 a1_4)))
set_option maxHeartbeats 8000000 in
set_option maxRecDepth 100000 in
theorem impl_isLine.calls (k : Nat) (a0 : Int) (a1_0 : Int) (a1_1 : Int) (a1_2 : Int) (a1_3 : Int) (a1_4 : Int) (r : Bool) (w : World) (h : impl_isLine.f k a0 a1_0 a1_1 a1_2 a1_3 a1_4 = some r) :
  Calls Try.prog 116 #[.int .i64 a0, .agg #[.int .i64 a1_0, .int .i64 a1_1, .int .i64 a1_2, .int .i64 a1_3, .int .i64 a1_4]] w fun e w' => e = .returned (.bool r) ∧ Below w.heap.size w w' := by
 have hu75 := Try.underlying75
 have HB := am (Below.refl w.heap.size w)
 have H : (if a1_0 = 0 then ((impl_isVar.f a1_1).bind fun t302 => (if t302 = true then ((impl_isOp.f a1_2).bind fun t303 => (if t303 = true then ((impl_isVar.f a1_3).bind fun t304 => (if t304 = true then ((impl_isVar.f a1_4).bind fun t305 => (some t305)) else (some false))) else (some false))) else (some false))) else (if a1_0 = 1 then ((impl_isVar.f a1_1).bind fun t306 => (if t306 = true then (if a1_2 = 0 then (if a1_3 = 0 then ((impl_IsWord.f a0 a1_4).bind fun t307 => (some t307)) else (some false)) else (some false)) else (some false))) else (if a1_0 = 2 then (impl_isLine.j0 k a1_0 (a1_0 == 2) a1_0 a1_1 a1_2 a1_3 a1_4) else (impl_isLine.j0 k a1_0 (a1_0 == 6) a1_0 a1_1 a1_2 a1_3 a1_4)))) = some r := h
 clear h
 by_cases c3 : a1_0 = 0
 ·
  rw [if_pos c3] at H
  have c3b0 : (a1_0 == 0) = true := beq_iff_eq.mpr c3
  have c3b1 : (a1_0 != 0) = false := bne_eq_false_iff_eq.mpr c3
  clear c3
  replace H := Option.bind_eq_some_iff.mp H
  obtain ⟨t302, A40, H⟩ := H
  replace H : (if t302 = true then ((impl_isOp.f a1_2).bind fun t303 => (if t303 = true then ((impl_isVar.f a1_3).bind fun t304 => (if t304 = true then ((impl_isVar.f a1_4).bind fun t305 => (some t305)) else (some false))) else (some false))) else (some false)) = some r := H
  have A4 := am A40
  clear A40
  by_cases c5 : t302 = true
  ·
   subst c5
   have H1 : ((impl_isOp.f a1_2).bind fun t303 => (if t303 = true then ((impl_isVar.f a1_3).bind fun t304 => (if t304 = true then ((impl_isVar.f a1_4).bind fun t305 => (some t305)) else (some false))) else (some false))) = some r := by rw [if_pos rfl] at H; exact H
   clear H
   have H := H1
   clear H1
   replace H := Option.bind_eq_some_iff.mp H
   obtain ⟨t303, A60, H⟩ := H
   replace H : (if t303 = true then ((impl_isVar.f a1_3).bind fun t304 => (if t304 = true then ((impl_isVar.f a1_4).bind fun t305 => (some t305)) else (some false))) else (some false)) = some r := H
   have A6 := am A60
   clear A60
   by_cases c7 : t303 = true
   ·
    subst c7
    have H1 : ((impl_isVar.f a1_3).bind fun t304 => (if t304 = true then ((impl_isVar.f a1_4).bind fun t305 => (some t305)) else (some false))) = some r := by rw [if_pos rfl] at H; exact H
    clear H
    have H := H1
    clear H1
    replace H := Option.bind_eq_some_iff.mp H
    obtain ⟨t304, A80, H⟩ := H
    replace H : (if t304 = true then ((impl_isVar.f a1_4).bind fun t305 => (some t305)) else (some false)) = some r := H
    have A8 := am A80
    clear A80
    by_cases c9 : t304 = true
    ·
     subst c9
     have H1 : ((impl_isVar.f a1_4).bind fun t305 => (some t305)) = some r := by rw [if_pos rfl] at H; exact H
     clear H
     have H := H1
     clear H1
     replace H := Option.bind_eq_some_iff.mp H
     obtain ⟨t305, A100, H⟩ := H
     replace H : (some t305) = some r := H
     have A10 := am A100
     clear A100
     obtain rfl := Option.some.inj H
     go_enter Try.func116, Try.ntmps116
     go_wp2_with (first | ((with_reducible refine gate_dst (N := 3) rfl ?_); refine box_event ?hg (N := 3) ?hd (cs := #[.int .i64 a1_0, .int .i64 a1_1, .int .i64 a1_2, .int .i64 a1_3, .int .i64 a1_4]) (t := 75) ?hr ?_; (case hd => rfl); (case hg => rfl); (case hr => first | (go_simp; done) | (go_simp; rfl)); intro gb301 hg w11 hbox hb; have n0_ := am (below_step (bst HB) hb); have n1_ := am (hbox); have n2_ := am ((by rw [hg]; exact (below_size (bst HB)) : w.heap.size ≤ gb301)); have n3_ := am ((by rw [hg]; exact (below_size (bst HB)) : w.heap.size ≤ gb301)); clear HB; have HB := n0_; have BK301 := n1_; have GW301 := n2_; have GE301 := n3_; clear n0_ n1_ n2_ n3_; clear hb hbox hg; obtain ⟨hcz12_0, hcz12_1, hcz12_2, hcz12_3, hcz12_4, hfz12_0, hfz12_1, hfz12_2, hfz12_3, hfz12_4⟩ := bx5 BK301.out) | ((with_reducible refine gate_callee (f := 145) rfl ?_); refine goesL_ (some 11) rfl rfl Try.func145 (by kernel_rfl) rfl #[.int .i64 a1_1] rfl (by (try simp only [List.map_toArray, List.map_cons, List.map_nil]); first | done | rfl | (simp only [List.length_drop, List.length_take]; rfl)) ?_; (with_reducible refine (impl_isVar.calls a1_1 true _ A4.out).mono ?_); rintro e w' ⟨rfl, ⟨nd, rfl⟩⟩; refine ⟨_, rfl, ?_⟩) | (go_at_call 146; (with_reducible refine (impl_isOp.calls a1_2 true _ A6.out).mono ?_); rintro e w' ⟨rfl, ⟨nd, rfl⟩⟩) | (go_at_call 145; (with_reducible refine (impl_isVar.calls a1_3 true _ A8.out).mono ?_); rintro e w' ⟨rfl, ⟨nd, rfl⟩⟩) | (go_at_call 145; (with_reducible refine (impl_isVar.calls a1_4 t305 _ A10.out).mono ?_); rintro e w' ⟨rfl, ⟨nd, rfl⟩⟩))
     go_ret
     exact ⟨by first | rfl | (simp [errW_none, errW_some] <;> rfl) | (simp [*, errW_none, errW_some] <;> rfl), by repeat (first | (with_reducible first | exact HB.out | apply below_alloc | apply pw_below_drewN | apply below_drew1 | refine below_set ?_ GE301.out) | exact HB.out)⟩
    ·
     replace c9 := Bool.eq_false_iff.mpr c9
     subst c9
     have H1 : (some false) = some r := by rw [if_neg (show ¬ (false = true) by decide)] at H; exact H
     clear H
     have H := H1
     clear H1
     obtain rfl := Option.some.inj H
     go_enter Try.func116, Try.ntmps116
     go_wp2_with (first | ((with_reducible refine gate_dst (N := 3) rfl ?_); refine box_event ?hg (N := 3) ?hd (cs := #[.int .i64 a1_0, .int .i64 a1_1, .int .i64 a1_2, .int .i64 a1_3, .int .i64 a1_4]) (t := 75) ?hr ?_; (case hd => rfl); (case hg => rfl); (case hr => first | (go_simp; done) | (go_simp; rfl)); intro gb301 hg w13 hbox hb; have n0_ := am (below_step (bst HB) hb); have n1_ := am (hbox); have n2_ := am ((by rw [hg]; exact (below_size (bst HB)) : w.heap.size ≤ gb301)); have n3_ := am ((by rw [hg]; exact (below_size (bst HB)) : w.heap.size ≤ gb301)); clear HB; have HB := n0_; have BK301 := n1_; have GW301 := n2_; have GE301 := n3_; clear n0_ n1_ n2_ n3_; clear hb hbox hg; obtain ⟨hcz14_0, hcz14_1, hcz14_2, hcz14_3, hcz14_4, hfz14_0, hfz14_1, hfz14_2, hfz14_3, hfz14_4⟩ := bx5 BK301.out) | ((with_reducible refine gate_callee (f := 145) rfl ?_); refine goesL_ (some 11) rfl rfl Try.func145 (by kernel_rfl) rfl #[.int .i64 a1_1] rfl (by (try simp only [List.map_toArray, List.map_cons, List.map_nil]); first | done | rfl | (simp only [List.length_drop, List.length_take]; rfl)) ?_; (with_reducible refine (impl_isVar.calls a1_1 true _ A4.out).mono ?_); rintro e w' ⟨rfl, ⟨nd, rfl⟩⟩; refine ⟨_, rfl, ?_⟩) | (go_at_call 146; (with_reducible refine (impl_isOp.calls a1_2 true _ A6.out).mono ?_); rintro e w' ⟨rfl, ⟨nd, rfl⟩⟩) | (go_at_call 145; (with_reducible refine (impl_isVar.calls a1_3 false _ A8.out).mono ?_); rintro e w' ⟨rfl, ⟨nd, rfl⟩⟩))
     go_ret
     exact ⟨by first | rfl | (simp [errW_none, errW_some] <;> rfl) | (simp [*, errW_none, errW_some] <;> rfl), by repeat (first | (with_reducible first | exact HB.out | apply below_alloc | apply pw_below_drewN | apply below_drew1 | refine below_set ?_ GE301.out) | exact HB.out)⟩
   ·
    replace c7 := Bool.eq_false_iff.mpr c7
    subst c7
    have H1 : (some false) = some r := by rw [if_neg (show ¬ (false = true) by decide)] at H; exact H
    clear H
    have H := H1
    clear H1
    obtain rfl := Option.some.inj H
    go_enter Try.func116, Try.ntmps116
    go_wp2_with (first | ((with_reducible refine gate_dst (N := 3) rfl ?_); refine box_event ?hg (N := 3) ?hd (cs := #[.int .i64 a1_0, .int .i64 a1_1, .int .i64 a1_2, .int .i64 a1_3, .int .i64 a1_4]) (t := 75) ?hr ?_; (case hd => rfl); (case hg => rfl); (case hr => first | (go_simp; done) | (go_simp; rfl)); intro gb301 hg w15 hbox hb; have n0_ := am (below_step (bst HB) hb); have n1_ := am (hbox); have n2_ := am ((by rw [hg]; exact (below_size (bst HB)) : w.heap.size ≤ gb301)); have n3_ := am ((by rw [hg]; exact (below_size (bst HB)) : w.heap.size ≤ gb301)); clear HB; have HB := n0_; have BK301 := n1_; have GW301 := n2_; have GE301 := n3_; clear n0_ n1_ n2_ n3_; clear hb hbox hg; obtain ⟨hcz16_0, hcz16_1, hcz16_2, hcz16_3, hcz16_4, hfz16_0, hfz16_1, hfz16_2, hfz16_3, hfz16_4⟩ := bx5 BK301.out) | ((with_reducible refine gate_callee (f := 145) rfl ?_); refine goesL_ (some 11) rfl rfl Try.func145 (by kernel_rfl) rfl #[.int .i64 a1_1] rfl (by (try simp only [List.map_toArray, List.map_cons, List.map_nil]); first | done | rfl | (simp only [List.length_drop, List.length_take]; rfl)) ?_; (with_reducible refine (impl_isVar.calls a1_1 true _ A4.out).mono ?_); rintro e w' ⟨rfl, ⟨nd, rfl⟩⟩; refine ⟨_, rfl, ?_⟩) | (go_at_call 146; (with_reducible refine (impl_isOp.calls a1_2 false _ A6.out).mono ?_); rintro e w' ⟨rfl, ⟨nd, rfl⟩⟩))
    go_ret
    exact ⟨by first | rfl | (simp [errW_none, errW_some] <;> rfl) | (simp [*, errW_none, errW_some] <;> rfl), by repeat (first | (with_reducible first | exact HB.out | apply below_alloc | apply pw_below_drewN | apply below_drew1 | refine below_set ?_ GE301.out) | exact HB.out)⟩
  ·
   replace c5 := Bool.eq_false_iff.mpr c5
   subst c5
   have H1 : (some false) = some r := by rw [if_neg (show ¬ (false = true) by decide)] at H; exact H
   clear H
   have H := H1
   clear H1
   obtain rfl := Option.some.inj H
   go_enter Try.func116, Try.ntmps116
   go_wp2_with (first | ((with_reducible refine gate_dst (N := 3) rfl ?_); refine box_event ?hg (N := 3) ?hd (cs := #[.int .i64 a1_0, .int .i64 a1_1, .int .i64 a1_2, .int .i64 a1_3, .int .i64 a1_4]) (t := 75) ?hr ?_; (case hd => rfl); (case hg => rfl); (case hr => first | (go_simp; done) | (go_simp; rfl)); intro gb301 hg w17 hbox hb; have n0_ := am (below_step (bst HB) hb); have n1_ := am (hbox); have n2_ := am ((by rw [hg]; exact (below_size (bst HB)) : w.heap.size ≤ gb301)); have n3_ := am ((by rw [hg]; exact (below_size (bst HB)) : w.heap.size ≤ gb301)); clear HB; have HB := n0_; have BK301 := n1_; have GW301 := n2_; have GE301 := n3_; clear n0_ n1_ n2_ n3_; clear hb hbox hg; obtain ⟨hcz18_0, hcz18_1, hcz18_2, hcz18_3, hcz18_4, hfz18_0, hfz18_1, hfz18_2, hfz18_3, hfz18_4⟩ := bx5 BK301.out) | ((with_reducible refine gate_callee (f := 145) rfl ?_); refine goesL_ (some 11) rfl rfl Try.func145 (by kernel_rfl) rfl #[.int .i64 a1_1] rfl (by (try simp only [List.map_toArray, List.map_cons, List.map_nil]); first | done | rfl | (simp only [List.length_drop, List.length_take]; rfl)) ?_; (with_reducible refine (impl_isVar.calls a1_1 false _ A4.out).mono ?_); rintro e w' ⟨rfl, ⟨nd, rfl⟩⟩; refine ⟨_, rfl, ?_⟩))
   go_ret
   exact ⟨by first | rfl | (simp [errW_none, errW_some] <;> rfl) | (simp [*, errW_none, errW_some] <;> rfl), by repeat (first | (with_reducible first | exact HB.out | apply below_alloc | apply pw_below_drewN | apply below_drew1 | refine below_set ?_ GE301.out) | exact HB.out)⟩
 ·
  rw [if_neg c3] at H
  have c3b0 : (a1_0 == 0) = false := beq_eq_false_iff_ne.mpr c3
  have c3b1 : (a1_0 != 0) = true := bne_iff_ne.mpr c3
  by_cases c19 : a1_0 = 1
  ·
   rw [if_pos c19] at H
   have c19b0 : (a1_0 == 1) = true := beq_iff_eq.mpr c19
   have c19b1 : (a1_0 != 1) = false := bne_eq_false_iff_eq.mpr c19
   clear c19
   replace H := Option.bind_eq_some_iff.mp H
   obtain ⟨t306, A200, H⟩ := H
   replace H : (if t306 = true then (if a1_2 = 0 then (if a1_3 = 0 then ((impl_IsWord.f a0 a1_4).bind fun t307 => (some t307)) else (some false)) else (some false)) else (some false)) = some r := H
   have A20 := am A200
   clear A200
   by_cases c21 : t306 = true
   ·
    subst c21
    have H1 : (if a1_2 = 0 then (if a1_3 = 0 then ((impl_IsWord.f a0 a1_4).bind fun t307 => (some t307)) else (some false)) else (some false)) = some r := by rw [if_pos rfl] at H; exact H
    clear H
    have H := H1
    clear H1
    by_cases c22 : a1_2 = 0
    ·
     rw [if_pos c22] at H
     have c22b0 : (a1_2 == 0) = true := beq_iff_eq.mpr c22
     have c22b1 : (a1_2 != 0) = false := bne_eq_false_iff_eq.mpr c22
     clear c22
     by_cases c23 : a1_3 = 0
     ·
      rw [if_pos c23] at H
      have c23b0 : (a1_3 == 0) = true := beq_iff_eq.mpr c23
      have c23b1 : (a1_3 != 0) = false := bne_eq_false_iff_eq.mpr c23
      clear c23
      replace H := Option.bind_eq_some_iff.mp H
      obtain ⟨t307, A240, H⟩ := H
      replace H : (some t307) = some r := H
      have A24 := am A240
      clear A240
      obtain rfl := Option.some.inj H
      go_enter Try.func116, Try.ntmps116
      go_wp2_with (first | ((with_reducible refine gate_dst (N := 3) rfl ?_); refine box_event ?hg (N := 3) ?hd (cs := #[.int .i64 a1_0, .int .i64 a1_1, .int .i64 a1_2, .int .i64 a1_3, .int .i64 a1_4]) (t := 75) ?hr ?_; (case hd => rfl); (case hg => rfl); (case hr => first | (go_simp; done) | (go_simp; rfl)); intro gb301 hg w25 hbox hb; have n0_ := am (below_step (bst HB) hb); have n1_ := am (hbox); have n2_ := am ((by rw [hg]; exact (below_size (bst HB)) : w.heap.size ≤ gb301)); have n3_ := am ((by rw [hg]; exact (below_size (bst HB)) : w.heap.size ≤ gb301)); clear HB; have HB := n0_; have BK301 := n1_; have GW301 := n2_; have GE301 := n3_; clear n0_ n1_ n2_ n3_; clear hb hbox hg; obtain ⟨hcz26_0, hcz26_1, hcz26_2, hcz26_3, hcz26_4, hfz26_0, hfz26_1, hfz26_2, hfz26_3, hfz26_4⟩ := bx5 BK301.out) | ((with_reducible refine gate_callee (f := 145) rfl ?_); refine goesL_ (some 31) rfl rfl Try.func145 (by kernel_rfl) rfl #[.int .i64 a1_1] rfl (by (try simp only [List.map_toArray, List.map_cons, List.map_nil]); first | done | rfl | (simp only [List.length_drop, List.length_take]; rfl)) ?_; (with_reducible refine (impl_isVar.calls a1_1 true _ A20.out).mono ?_); rintro e w' ⟨rfl, ⟨nd, rfl⟩⟩; refine ⟨_, rfl, ?_⟩) | (go_at_call 92; (with_reducible refine (impl_IsWord.calls a0 a1_4 t307 _ A24.out).mono ?_); rintro e w' ⟨rfl, ⟨nd, rfl⟩⟩))
      go_ret
      exact ⟨by first | rfl | (simp [errW_none, errW_some] <;> rfl) | (simp [*, errW_none, errW_some] <;> rfl), by repeat (first | (with_reducible first | exact HB.out | apply below_alloc | apply pw_below_drewN | apply below_drew1 | refine below_set ?_ GE301.out) | exact HB.out)⟩
     ·
      rw [if_neg c23] at H
      have c23b0 : (a1_3 == 0) = false := beq_eq_false_iff_ne.mpr c23
      have c23b1 : (a1_3 != 0) = true := bne_iff_ne.mpr c23
      obtain rfl := Option.some.inj H
      go_enter Try.func116, Try.ntmps116
      go_wp2_with (first | ((with_reducible refine gate_dst (N := 3) rfl ?_); refine box_event ?hg (N := 3) ?hd (cs := #[.int .i64 a1_0, .int .i64 a1_1, .int .i64 a1_2, .int .i64 a1_3, .int .i64 a1_4]) (t := 75) ?hr ?_; (case hd => rfl); (case hg => rfl); (case hr => first | (go_simp; done) | (go_simp; rfl)); intro gb301 hg w27 hbox hb; have n0_ := am (below_step (bst HB) hb); have n1_ := am (hbox); have n2_ := am ((by rw [hg]; exact (below_size (bst HB)) : w.heap.size ≤ gb301)); have n3_ := am ((by rw [hg]; exact (below_size (bst HB)) : w.heap.size ≤ gb301)); clear HB; have HB := n0_; have BK301 := n1_; have GW301 := n2_; have GE301 := n3_; clear n0_ n1_ n2_ n3_; clear hb hbox hg; obtain ⟨hcz28_0, hcz28_1, hcz28_2, hcz28_3, hcz28_4, hfz28_0, hfz28_1, hfz28_2, hfz28_3, hfz28_4⟩ := bx5 BK301.out) | ((with_reducible refine gate_callee (f := 145) rfl ?_); refine goesL_ (some 31) rfl rfl Try.func145 (by kernel_rfl) rfl #[.int .i64 a1_1] rfl (by (try simp only [List.map_toArray, List.map_cons, List.map_nil]); first | done | rfl | (simp only [List.length_drop, List.length_take]; rfl)) ?_; (with_reducible refine (impl_isVar.calls a1_1 true _ A20.out).mono ?_); rintro e w' ⟨rfl, ⟨nd, rfl⟩⟩; refine ⟨_, rfl, ?_⟩))
      go_ret
      exact ⟨by first | rfl | (simp [errW_none, errW_some] <;> rfl) | (simp [*, errW_none, errW_some] <;> rfl), by repeat (first | (with_reducible first | exact HB.out | apply below_alloc | apply pw_below_drewN | apply below_drew1 | refine below_set ?_ GE301.out) | exact HB.out)⟩
    ·
     rw [if_neg c22] at H
     have c22b0 : (a1_2 == 0) = false := beq_eq_false_iff_ne.mpr c22
     have c22b1 : (a1_2 != 0) = true := bne_iff_ne.mpr c22
     obtain rfl := Option.some.inj H
     go_enter Try.func116, Try.ntmps116
     go_wp2_with (first | ((with_reducible refine gate_dst (N := 3) rfl ?_); refine box_event ?hg (N := 3) ?hd (cs := #[.int .i64 a1_0, .int .i64 a1_1, .int .i64 a1_2, .int .i64 a1_3, .int .i64 a1_4]) (t := 75) ?hr ?_; (case hd => rfl); (case hg => rfl); (case hr => first | (go_simp; done) | (go_simp; rfl)); intro gb301 hg w29 hbox hb; have n0_ := am (below_step (bst HB) hb); have n1_ := am (hbox); have n2_ := am ((by rw [hg]; exact (below_size (bst HB)) : w.heap.size ≤ gb301)); have n3_ := am ((by rw [hg]; exact (below_size (bst HB)) : w.heap.size ≤ gb301)); clear HB; have HB := n0_; have BK301 := n1_; have GW301 := n2_; have GE301 := n3_; clear n0_ n1_ n2_ n3_; clear hb hbox hg; obtain ⟨hcz30_0, hcz30_1, hcz30_2, hcz30_3, hcz30_4, hfz30_0, hfz30_1, hfz30_2, hfz30_3, hfz30_4⟩ := bx5 BK301.out) | ((with_reducible refine gate_callee (f := 145) rfl ?_); refine goesL_ (some 31) rfl rfl Try.func145 (by kernel_rfl) rfl #[.int .i64 a1_1] rfl (by (try simp only [List.map_toArray, List.map_cons, List.map_nil]); first | done | rfl | (simp only [List.length_drop, List.length_take]; rfl)) ?_; (with_reducible refine (impl_isVar.calls a1_1 true _ A20.out).mono ?_); rintro e w' ⟨rfl, ⟨nd, rfl⟩⟩; refine ⟨_, rfl, ?_⟩))
     go_ret
     exact ⟨by first | rfl | (simp [errW_none, errW_some] <;> rfl) | (simp [*, errW_none, errW_some] <;> rfl), by repeat (first | (with_reducible first | exact HB.out | apply below_alloc | apply pw_below_drewN | apply below_drew1 | refine below_set ?_ GE301.out) | exact HB.out)⟩
   ·
    replace c21 := Bool.eq_false_iff.mpr c21
    subst c21
    have H1 : (some false) = some r := by rw [if_neg (show ¬ (false = true) by decide)] at H; exact H
    clear H
    have H := H1
    clear H1
    obtain rfl := Option.some.inj H
    go_enter Try.func116, Try.ntmps116
    go_wp2_with (first | ((with_reducible refine gate_dst (N := 3) rfl ?_); refine box_event ?hg (N := 3) ?hd (cs := #[.int .i64 a1_0, .int .i64 a1_1, .int .i64 a1_2, .int .i64 a1_3, .int .i64 a1_4]) (t := 75) ?hr ?_; (case hd => rfl); (case hg => rfl); (case hr => first | (go_simp; done) | (go_simp; rfl)); intro gb301 hg w31 hbox hb; have n0_ := am (below_step (bst HB) hb); have n1_ := am (hbox); have n2_ := am ((by rw [hg]; exact (below_size (bst HB)) : w.heap.size ≤ gb301)); have n3_ := am ((by rw [hg]; exact (below_size (bst HB)) : w.heap.size ≤ gb301)); clear HB; have HB := n0_; have BK301 := n1_; have GW301 := n2_; have GE301 := n3_; clear n0_ n1_ n2_ n3_; clear hb hbox hg; obtain ⟨hcz32_0, hcz32_1, hcz32_2, hcz32_3, hcz32_4, hfz32_0, hfz32_1, hfz32_2, hfz32_3, hfz32_4⟩ := bx5 BK301.out) | ((with_reducible refine gate_callee (f := 145) rfl ?_); refine goesL_ (some 31) rfl rfl Try.func145 (by kernel_rfl) rfl #[.int .i64 a1_1] rfl (by (try simp only [List.map_toArray, List.map_cons, List.map_nil]); first | done | rfl | (simp only [List.length_drop, List.length_take]; rfl)) ?_; (with_reducible refine (impl_isVar.calls a1_1 false _ A20.out).mono ?_); rintro e w' ⟨rfl, ⟨nd, rfl⟩⟩; refine ⟨_, rfl, ?_⟩))
    go_ret
    exact ⟨by first | rfl | (simp [errW_none, errW_some] <;> rfl) | (simp [*, errW_none, errW_some] <;> rfl), by repeat (first | (with_reducible first | exact HB.out | apply below_alloc | apply pw_below_drewN | apply below_drew1 | refine below_set ?_ GE301.out) | exact HB.out)⟩
  ·
   rw [if_neg c19] at H
   have c19b0 : (a1_0 == 1) = false := beq_eq_false_iff_ne.mpr c19
   have c19b1 : (a1_0 != 1) = true := bne_iff_ne.mpr c19
   have HC33 := am H
   clear H
   go_enter Try.func116, Try.ntmps116
   go_upto_if 48 with (first | ((with_reducible refine gate_dst (N := 3) rfl ?_); refine box_event ?hg (N := 3) ?hd (cs := #[.int .i64 a1_0, .int .i64 a1_1, .int .i64 a1_2, .int .i64 a1_3, .int .i64 a1_4]) (t := 75) ?hr ?_; (case hd => rfl); (case hg => rfl); (case hr => first | (go_simp; done) | (go_simp; rfl)); intro gb301 hg w34 hbox hb; have n0_ := am (below_step (bst HB) hb); have n1_ := am (hbox); have n2_ := am ((by rw [hg]; exact (below_size (bst HB)) : w.heap.size ≤ gb301)); have n3_ := am ((by rw [hg]; exact (below_size (bst HB)) : w.heap.size ≤ gb301)); clear HB; have HB := n0_; have BK301 := n1_; have GW301 := n2_; have GE301 := n3_; clear n0_ n1_ n2_ n3_; clear hb hbox hg; obtain ⟨hcz35_0, hcz35_1, hcz35_2, hcz35_3, hcz35_4, hfz35_0, hfz35_1, hfz35_2, hfz35_3, hfz35_4⟩ := bx5 BK301.out))
   (try simp only [Act.put, List.setIfInBounds_toArray, List.set_cons_zero, List.set_cons_succ])
   go_cut [48] (fun v48 wc => ∃ (kq : Nat) (x48_32 : Bool), v48 = .bool x48_32 ∧ Aside0 (impl_isLine.j0 kq a1_0 x48_32 a1_0 a1_1 a1_2 a1_3 a1_4 = some r) ∧ Aside0 (kq ≤ k) ∧ Aside0 (wc.heap[gb301]? = some (.cells #[.int .i64 a1_0, .int .i64 a1_1, .int .i64 a1_2, .int .i64 a1_3, .int .i64 a1_4] 75 (0, 0))) ∧ Aside0 (Below w.heap.size w wc))
   case first =>
    have H := HC33.out
    clear HC33
    by_cases c36 : a1_0 = 2
    ·
     rw [if_pos c36] at H
     have c36b0 : (a1_0 == 2) = true := beq_iff_eq.mpr c36
     have c36b1 : (a1_0 != 2) = false := bne_eq_false_iff_eq.mpr c36
     clear c36
     (first | rw [c36b0] | (simp only [i64_w, i32_w]; rw [c36b0]) | skip)
     have H' := am H; clear H
     go_wp2
     go_meet
     case rel => exact ⟨_, ((a1_0 == 2)), (by first | rfl | (simp; done) | (simp [*]; done)), H', ⟨by first | omega | exact Nat.le_refl _⟩, ⟨by (with_reducible repeat (first | refine blk_drewN ?_ _ | refine blk_drew ?_ | refine blk_alloc ?_ _)); exact BK301.out⟩, ⟨by repeat (first | (with_reducible first | exact HB.out | apply below_alloc | apply pw_below_drewN | apply below_drew1 | refine below_set ?_ GE301.out) | exact HB.out)⟩⟩
    ·
     rw [if_neg c36] at H
     have c36b0 : (a1_0 == 2) = false := beq_eq_false_iff_ne.mpr c36
     have c36b1 : (a1_0 != 2) = true := bne_iff_ne.mpr c36
     (first | rw [c36b0] | (simp only [i64_w, i32_w]; rw [c36b0]) | skip)
     have H' := am H; clear H
     go_wp2
     go_meet
     case rel => exact ⟨_, ((a1_0 == 6)), (by first | rfl | (simp; done) | (simp [*]; done)), H', ⟨by first | omega | exact Nat.le_refl _⟩, ⟨by (with_reducible repeat (first | refine blk_drewN ?_ _ | refine blk_drew ?_ | refine blk_alloc ?_ _)); exact BK301.out⟩, ⟨by repeat (first | (with_reducible first | exact HB.out | apply below_alloc | apply pw_below_drewN | apply below_drew1 | refine below_set ?_ GE301.out) | exact HB.out)⟩⟩
   case rest =>
    clear HC33; (try clear c1); (try clear c2); (try clear p2); (try clear c3); (try clear c3b0); (try clear c3b1); (try clear c5); (try clear c7); (try clear c9); (try clear c11); (try clear c14); (try clear c19); (try clear c19b0); (try clear c19b1); (try clear c21); (try clear c22); (try clear c22b0); (try clear c22b1); (try clear c23); (try clear c23b0); (try clear c23b1); (try clear c36); (try clear c36b0); (try clear c36b1); (try clear hcz12_0); (try clear hcz12_1); (try clear hcz12_2); (try clear hcz12_3); (try clear hcz12_4); (try clear hcz14_0); (try clear hcz14_1); (try clear hcz14_2); (try clear hcz14_3); (try clear hcz14_4); (try clear hcz16_0); (try clear hcz16_1); (try clear hcz16_2); (try clear hcz16_3); (try clear hcz16_4); (try clear hcz18_0); (try clear hcz18_1); (try clear hcz18_2); (try clear hcz18_3); (try clear hcz18_4); (try clear hcz26_0); (try clear hcz26_1); (try clear hcz26_2)
    (try clear hcz26_3)
    (try clear hcz26_4)
    (try clear hcz28_0)
    (try clear hcz28_1)
    (try clear hcz28_2)
    (try clear hcz28_3)
    (try clear hcz28_4)
    (try clear hcz30_0)
    (try clear hcz30_1)
    (try clear hcz30_2)
    (try clear hcz30_3)
    (try clear hcz30_4)
    (try clear hcz32_0)
    (try clear hcz32_1)
    (try clear hcz32_2)
    (try clear hcz32_3)
    (try clear hcz32_4)
    (try clear hcz35_0)
    (try clear hcz35_1)
    (try clear hcz35_2)
    (try clear hcz35_3)
    (try clear hcz35_4)
    (try clear hfz12_0)
    (try clear hfz12_1)
    (try clear hfz12_2)
    (try clear hfz12_3)
    (try clear hfz12_4)
    (try clear hfz14_0)
    (try clear hfz14_1)
    (try clear hfz14_2)
    (try clear hfz14_3)
    (try clear hfz14_4)
    (try clear hfz16_0)
    (try clear hfz16_1)
    (try clear hfz16_2)
    (try clear hfz16_3)
    (try clear hfz16_4)
    (try clear hfz18_0)
    (try clear hfz18_1)
    (try clear hfz18_2)
    (try clear hfz18_3)
    (try clear hfz18_4)
    (try clear hfz26_0)
    (try clear hfz26_1)
    (try clear hfz26_2)
    (try clear hfz26_3)
    (try clear hfz26_4)
    (try clear hfz28_0)
    (try clear hfz28_1)
    (try clear hfz28_2)
    (try clear hfz28_3)
    (try clear hfz28_4)
    (try clear hfz30_0)
    (try clear hfz30_1)
    (try clear hfz30_2)
    (try clear hfz30_3)
    (try clear hfz30_4)
    (try clear hfz32_0)
    (try clear hfz32_1)
    (try clear hfz32_2)
    (try clear hfz32_3)
    (try clear hfz32_4)
    (try clear hfz35_0)
    (try clear hfz35_1)
    (try clear hfz35_2)
    (try clear hfz35_3)
    (try clear hfz35_4)
    obtain ⟨kq, x48_32, rfl, HA, HJ32, BK301, HB⟩ := hcut
    cases kq with
    | zero => exact absurd HA.out (by simp [impl_isLine.j0])
    | succ kj32 =>
     have H := HA.out
     clear HA
     simp only [impl_isLine.j0] at H
     by_cases c37 : x48_32 = true
     ·
      subst c37
      have H1 : (if a1_1 = 0 then ((impl_isCmp.f a1_2).bind fun t308 => (if t308 = true then ((impl_isVar.f a1_3).bind fun t309 => (if t309 = true then ((impl_isVar.f a1_4).bind fun t310 => (some t310)) else (some false))) else (some false))) else (some false)) = some r := by rw [if_pos rfl] at H; exact H
      clear H
      have H := H1
      clear H1
      by_cases c38 : a1_1 = 0
      ·
       rw [if_pos c38] at H
       have c38b0 : (a1_1 == 0) = true := beq_iff_eq.mpr c38
       have c38b1 : (a1_1 != 0) = false := bne_eq_false_iff_eq.mpr c38
       clear c38
       replace H := Option.bind_eq_some_iff.mp H
       obtain ⟨t308, A390, H⟩ := H
       replace H : (if t308 = true then ((impl_isVar.f a1_3).bind fun t309 => (if t309 = true then ((impl_isVar.f a1_4).bind fun t310 => (some t310)) else (some false))) else (some false)) = some r := H
       have A39 := am A390
       clear A390
       by_cases c40 : t308 = true
       ·
        subst c40
        have H1 : ((impl_isVar.f a1_3).bind fun t309 => (if t309 = true then ((impl_isVar.f a1_4).bind fun t310 => (some t310)) else (some false))) = some r := by rw [if_pos rfl] at H; exact H
        clear H
        have H := H1
        clear H1
        replace H := Option.bind_eq_some_iff.mp H
        obtain ⟨t309, A410, H⟩ := H
        replace H : (if t309 = true then ((impl_isVar.f a1_4).bind fun t310 => (some t310)) else (some false)) = some r := H
        have A41 := am A410
        clear A410
        by_cases c42 : t309 = true
        ·
         subst c42
         have H1 : ((impl_isVar.f a1_4).bind fun t310 => (some t310)) = some r := by rw [if_pos rfl] at H; exact H
         clear H
         have H := H1
         clear H1
         replace H := Option.bind_eq_some_iff.mp H
         obtain ⟨t310, A430, H⟩ := H
         replace H : (some t310) = some r := H
         have A43 := am A430
         clear A430
         obtain rfl := Option.some.inj H
         obtain ⟨hcz44_0, hcz44_1, hcz44_2, hcz44_3, hcz44_4, hfz44_0, hfz44_1, hfz44_2, hfz44_3, hfz44_4⟩ := bx5 BK301.out
         go_wp2_with (first | (go_at_call 147; (with_reducible refine (impl_isCmp.calls a1_2 true _ A39.out).mono ?_); rintro e w' ⟨rfl, ⟨nd, rfl⟩⟩) | (go_at_call 145; (with_reducible refine (impl_isVar.calls a1_3 true _ A41.out).mono ?_); rintro e w' ⟨rfl, ⟨nd, rfl⟩⟩) | (go_at_call 145; (with_reducible refine (impl_isVar.calls a1_4 t310 _ A43.out).mono ?_); rintro e w' ⟨rfl, ⟨nd, rfl⟩⟩))
         go_ret
         exact ⟨by first | rfl | (simp [errW_none, errW_some] <;> rfl) | (simp [*, errW_none, errW_some] <;> rfl), by repeat (first | (with_reducible first | exact HB.out | apply below_alloc | apply pw_below_drewN | apply below_drew1 | refine below_set ?_ GE301.out) | exact HB.out)⟩
        ·
         replace c42 := Bool.eq_false_iff.mpr c42
         subst c42
         have H1 : (some false) = some r := by rw [if_neg (show ¬ (false = true) by decide)] at H; exact H
         clear H
         have H := H1
         clear H1
         obtain rfl := Option.some.inj H
         obtain ⟨hcz45_0, hcz45_1, hcz45_2, hcz45_3, hcz45_4, hfz45_0, hfz45_1, hfz45_2, hfz45_3, hfz45_4⟩ := bx5 BK301.out
         go_wp2_with (first | (go_at_call 147; (with_reducible refine (impl_isCmp.calls a1_2 true _ A39.out).mono ?_); rintro e w' ⟨rfl, ⟨nd, rfl⟩⟩) | (go_at_call 145; (with_reducible refine (impl_isVar.calls a1_3 false _ A41.out).mono ?_); rintro e w' ⟨rfl, ⟨nd, rfl⟩⟩))
         go_ret
         exact ⟨by first | rfl | (simp [errW_none, errW_some] <;> rfl) | (simp [*, errW_none, errW_some] <;> rfl), by repeat (first | (with_reducible first | exact HB.out | apply below_alloc | apply pw_below_drewN | apply below_drew1 | refine below_set ?_ GE301.out) | exact HB.out)⟩
       ·
        replace c40 := Bool.eq_false_iff.mpr c40
        subst c40
        have H1 : (some false) = some r := by rw [if_neg (show ¬ (false = true) by decide)] at H; exact H
        clear H
        have H := H1
        clear H1
        obtain rfl := Option.some.inj H
        obtain ⟨hcz46_0, hcz46_1, hcz46_2, hcz46_3, hcz46_4, hfz46_0, hfz46_1, hfz46_2, hfz46_3, hfz46_4⟩ := bx5 BK301.out
        go_wp2_with (first | (go_at_call 147; (with_reducible refine (impl_isCmp.calls a1_2 false _ A39.out).mono ?_); rintro e w' ⟨rfl, ⟨nd, rfl⟩⟩))
        go_ret
        exact ⟨by first | rfl | (simp [errW_none, errW_some] <;> rfl) | (simp [*, errW_none, errW_some] <;> rfl), by repeat (first | (with_reducible first | exact HB.out | apply below_alloc | apply pw_below_drewN | apply below_drew1 | refine below_set ?_ GE301.out) | exact HB.out)⟩
      ·
       rw [if_neg c38] at H
       have c38b0 : (a1_1 == 0) = false := beq_eq_false_iff_ne.mpr c38
       have c38b1 : (a1_1 != 0) = true := bne_iff_ne.mpr c38
       obtain rfl := Option.some.inj H
       obtain ⟨hcz47_0, hcz47_1, hcz47_2, hcz47_3, hcz47_4, hfz47_0, hfz47_1, hfz47_2, hfz47_3, hfz47_4⟩ := bx5 BK301.out
       go_wp2
       go_ret
       exact ⟨by first | rfl | (simp [errW_none, errW_some] <;> rfl) | (simp [*, errW_none, errW_some] <;> rfl), by repeat (first | (with_reducible first | exact HB.out | apply below_alloc | apply pw_below_drewN | apply below_drew1 | refine below_set ?_ GE301.out) | exact HB.out)⟩
     ·
      replace c37 := Bool.eq_false_iff.mpr c37
      subst c37
      have H1 : (if a1_0 = 3 then (impl_isLine.j1 kj32 a1_0 (a1_0 == 3) a1_0 a1_1 a1_2 a1_3 a1_4) else (impl_isLine.j1 kj32 a1_0 (a1_0 == 4) a1_0 a1_1 a1_2 a1_3 a1_4)) = some r := by rw [if_neg (show ¬ (false = true) by decide)] at H; exact H
      clear H
      have H := H1
      clear H1
      have HC48 := am H
      clear H
      go_upto_if 69 with (fail)
      go_cut [69] (fun v69 wc => ∃ (kq : Nat) (x69_47 : Bool), v69 = .bool x69_47 ∧ Aside0 (impl_isLine.j1 kq a1_0 x69_47 a1_0 a1_1 a1_2 a1_3 a1_4 = some r) ∧ Aside0 (kq ≤ kj32) ∧ Aside0 (wc.heap[gb301]? = some (.cells #[.int .i64 a1_0, .int .i64 a1_1, .int .i64 a1_2, .int .i64 a1_3, .int .i64 a1_4] 75 (0, 0))) ∧ Aside0 (Below w.heap.size w wc))
      case first =>
       have H := HC48.out
       clear HC48
       by_cases c49 : a1_0 = 3
       ·
        rw [if_pos c49] at H
        have c49b0 : (a1_0 == 3) = true := beq_iff_eq.mpr c49
        have c49b1 : (a1_0 != 3) = false := bne_eq_false_iff_eq.mpr c49
        clear c49
        (first | rw [c49b0] | (simp only [i64_w, i32_w]; rw [c49b0]) | skip)
        have H' := am H; clear H
        go_wp2
        go_meet
        case rel => exact ⟨_, ((a1_0 == 3)), (by first | rfl | (simp; done) | (simp [*]; done)), H', ⟨by have := HJ32.out; first | omega | exact Nat.le_refl _⟩, ⟨by (with_reducible repeat (first | refine blk_drewN ?_ _ | refine blk_drew ?_ | refine blk_alloc ?_ _)); exact BK301.out⟩, ⟨by repeat (first | (with_reducible first | exact HB.out | apply below_alloc | apply pw_below_drewN | apply below_drew1 | refine below_set ?_ GE301.out) | exact HB.out)⟩⟩
       ·
        rw [if_neg c49] at H
        have c49b0 : (a1_0 == 3) = false := beq_eq_false_iff_ne.mpr c49
        have c49b1 : (a1_0 != 3) = true := bne_iff_ne.mpr c49
        (first | rw [c49b0] | (simp only [i64_w, i32_w]; rw [c49b0]) | skip)
        have H' := am H; clear H
        go_wp2
        go_meet
        case rel => exact ⟨_, ((a1_0 == 4)), (by first | rfl | (simp; done) | (simp [*]; done)), H', ⟨by have := HJ32.out; first | omega | exact Nat.le_refl _⟩, ⟨by (with_reducible repeat (first | refine blk_drewN ?_ _ | refine blk_drew ?_ | refine blk_alloc ?_ _)); exact BK301.out⟩, ⟨by repeat (first | (with_reducible first | exact HB.out | apply below_alloc | apply pw_below_drewN | apply below_drew1 | refine below_set ?_ GE301.out) | exact HB.out)⟩⟩
      case rest =>
       clear HC48; (try clear c1); (try clear c2); (try clear p2); (try clear c3); (try clear c3b0); (try clear c3b1); (try clear c4); (try clear c5); (try clear c7); (try clear c9); (try clear c11); (try clear c14); (try clear c19); (try clear c19b0); (try clear c19b1); (try clear c21); (try clear c22); (try clear c22b0); (try clear c22b1); (try clear c23); (try clear c23b0); (try clear c23b1); (try clear c36); (try clear c36b0); (try clear c36b1); (try clear c37); (try clear c38); (try clear c38b0); (try clear c38b1); (try clear c40); (try clear c42); (try clear c49); (try clear c49b0); (try clear c49b1); (try clear hcz12_0); (try clear hcz12_1); (try clear hcz12_2); (try clear hcz12_3); (try clear hcz12_4); (try clear hcz14_0); (try clear hcz14_1); (try clear hcz14_2); (try clear hcz14_3); (try clear hcz14_4); (try clear hcz16_0); (try clear hcz16_1); (try clear hcz16_2); (try clear hcz16_3)
       (try clear hcz16_4)
       (try clear hcz18_0)
       (try clear hcz18_1)
       (try clear hcz18_2)
       (try clear hcz18_3)
       (try clear hcz18_4)
       (try clear hcz26_0)
       (try clear hcz26_1)
       (try clear hcz26_2)
       (try clear hcz26_3)
       (try clear hcz26_4)
       (try clear hcz28_0)
       (try clear hcz28_1)
       (try clear hcz28_2)
       (try clear hcz28_3)
       (try clear hcz28_4)
       (try clear hcz30_0)
       (try clear hcz30_1)
       (try clear hcz30_2)
       (try clear hcz30_3)
       (try clear hcz30_4)
       (try clear hcz32_0)
       (try clear hcz32_1)
       (try clear hcz32_2)
       (try clear hcz32_3)
       (try clear hcz32_4)
       (try clear hcz35_0)
       (try clear hcz35_1)
       (try clear hcz35_2)
       (try clear hcz35_3)
       (try clear hcz35_4)
       (try clear hcz44_0)
       (try clear hcz44_1)
       (try clear hcz44_2)
       (try clear hcz44_3)
       (try clear hcz44_4)
       (try clear hcz45_0)
       (try clear hcz45_1)
       (try clear hcz45_2)
       (try clear hcz45_3)
       (try clear hcz45_4)
       (try clear hcz46_0)
       (try clear hcz46_1)
       (try clear hcz46_2)
       (try clear hcz46_3)
       (try clear hcz46_4)
       (try clear hcz47_0)
       (try clear hcz47_1)
       (try clear hcz47_2)
       (try clear hcz47_3)
       (try clear hcz47_4)
       (try clear hfz12_0)
       (try clear hfz12_1)
       (try clear hfz12_2)
       (try clear hfz12_3)
       (try clear hfz12_4)
       (try clear hfz14_0)
       (try clear hfz14_1)
       (try clear hfz14_2)
       (try clear hfz14_3)
       (try clear hfz14_4)
       (try clear hfz16_0)
       (try clear hfz16_1)
       (try clear hfz16_2)
       (try clear hfz16_3)
       (try clear hfz16_4)
       (try clear hfz18_0)
       (try clear hfz18_1)
       (try clear hfz18_2)
       (try clear hfz18_3)
       (try clear hfz18_4)
       (try clear hfz26_0)
       (try clear hfz26_1)
       (try clear hfz26_2)
       (try clear hfz26_3)
       (try clear hfz26_4)
       (try clear hfz28_0)
       (try clear hfz28_1)
       (try clear hfz28_2)
       (try clear hfz28_3)
       (try clear hfz28_4)
       (try clear hfz30_0)
       (try clear hfz30_1)
       (try clear hfz30_2)
       (try clear hfz30_3)
       (try clear hfz30_4)
       (try clear hfz32_0)
       (try clear hfz32_1)
       (try clear hfz32_2)
       (try clear hfz32_3)
       (try clear hfz32_4)
       (try clear hfz35_0)
       (try clear hfz35_1)
       (try clear hfz35_2)
       (try clear hfz35_3)
       (try clear hfz35_4)
       (try clear hfz44_0)
       (try clear hfz44_1)
       (try clear hfz44_2)
       (try clear hfz44_3)
       (try clear hfz44_4)
       (try clear hfz45_0)
       (try clear hfz45_1)
       (try clear hfz45_2)
       (try clear hfz45_3)
       (try clear hfz45_4)
       (try clear hfz46_0)
       (try clear hfz46_1)
       (try clear hfz46_2)
       (try clear hfz46_3)
       (try clear hfz46_4)
       (try clear hfz47_0)
       (try clear hfz47_1)
       (try clear hfz47_2)
       (try clear hfz47_3)
       (try clear hfz47_4)
       (try clear p2)
       obtain ⟨kq, x69_47, rfl, HA, HJ47, BK301, HB⟩ := hcut
       cases kq with
       | zero => exact absurd HA.out (by simp [impl_isLine.j1])
       | succ kj47 =>
        have H := HA.out
        clear HA
        simp only [impl_isLine.j1] at H
        by_cases c50 : x69_47 = true
        ·
         subst c50
         have H1 : (some (a1_1 == 0 && (a1_2 == 0 && (a1_3 == 0 && (a1_4 == 0))))) = some r := by rw [if_pos rfl] at H; exact H
         clear H
         have H := H1
         clear H1
         obtain rfl := Option.some.inj H
         obtain ⟨hcz51_0, hcz51_1, hcz51_2, hcz51_3, hcz51_4, hfz51_0, hfz51_1, hfz51_2, hfz51_3, hfz51_4⟩ := bx5 BK301.out
         go_wp2
         go_ret
         exact ⟨by first | rfl | (simp [errW_none, errW_some] <;> rfl) | (simp [*, errW_none, errW_some] <;> rfl), by repeat (first | (with_reducible first | exact HB.out | apply below_alloc | apply pw_below_drewN | apply below_drew1 | refine below_set ?_ GE301.out) | exact HB.out)⟩
        ·
         replace c50 := Bool.eq_false_iff.mpr c50
         subst c50
         have H1 : (if a1_0 = 5 then (if (a1_0 == 5 && (a1_1 == 0 && (a1_2 == 0 && (a1_3 == 0)))) = true then ((impl_within.f a1_4 1 8).bind fun t311 => (some t311)) else (some false)) else (some false)) = some r := by rw [if_neg (show ¬ (false = true) by decide)] at H; exact H
         clear H
         have H := H1
         clear H1
         by_cases c52 : a1_0 = 5
         ·
          rw [if_pos c52] at H
          have c52b0 : (a1_0 == 5) = true := beq_iff_eq.mpr c52
          have c52b1 : (a1_0 != 5) = false := bne_eq_false_iff_eq.mpr c52
          clear c52
          by_cases c53 : (a1_0 == 5 && (a1_1 == 0 && (a1_2 == 0 && (a1_3 == 0)))) = true
          ·
           rw [if_pos c53] at H
           have c53b0 : (a1_0 == 5 && (a1_1 == 0 && (a1_2 == 0 && (a1_3 == 0)))) = true := c53
           (try (have c53b1 : decide (a1_0 = 5 && (a1_1 == 0 && (a1_2 == 0 && (a1_3 == 0)))) = true := by simpa using c53))
           (try (have c53b2 : (a1_0 == 5 && (a1_1 == 0 && (a1_2 == 0 && (a1_3 == 0)))) = true := by simpa using c53))
           clear c53
           (try (have c53s := c53b0; (try simp only [c3b0] at c53s); (try simp only [c19b0] at c53s); (try simp only [c52b0] at c53s); simp only [Bool.true_and, Bool.and_true, Bool.false_or, Bool.or_false] at c53s))
           replace H := Option.bind_eq_some_iff.mp H
           obtain ⟨t311, A540, H⟩ := H
           replace H : (some t311) = some r := H
           have A54 := am A540
           clear A540
           obtain rfl := Option.some.inj H
           obtain ⟨hcz55_0, hcz55_1, hcz55_2, hcz55_3, hcz55_4, hfz55_0, hfz55_1, hfz55_2, hfz55_3, hfz55_4⟩ := bx5 BK301.out
           go_wp2_with (first | (go_at_call 110; (with_reducible refine (impl_within.calls a1_4 1 8 t311 _ A54.out).mono ?_); rintro e w' ⟨rfl, ⟨nd, rfl⟩⟩))
           go_ret
           exact ⟨by first | rfl | (simp [errW_none, errW_some] <;> rfl) | (simp [*, errW_none, errW_some] <;> rfl), by repeat (first | (with_reducible first | exact HB.out | apply below_alloc | apply pw_below_drewN | apply below_drew1 | refine below_set ?_ GE301.out) | exact HB.out)⟩
          ·
           rw [if_neg c53] at H
           have c53b0 : (a1_0 == 5 && (a1_1 == 0 && (a1_2 == 0 && (a1_3 == 0)))) = false := by simpa using c53
           (try (have c53b1 : decide (a1_0 = 5 && (a1_1 == 0 && (a1_2 == 0 && (a1_3 == 0)))) = false := by simpa using c53))
           (try (have c53b2 : (a1_0 == 5 && (a1_1 == 0 && (a1_2 == 0 && (a1_3 == 0)))) = false := by simpa using c53))
           (try (have c53b3 : ¬ (a1_0 = 5 && (a1_1 == 0 && (a1_2 == 0 && (a1_3 == 0)))) := by simpa using c53))
           clear c53
           (try (have c53s := c53b0; (try simp only [c3b0] at c53s); (try simp only [c19b0] at c53s); (try simp only [c52b0] at c53s); simp only [Bool.true_and, Bool.and_true, Bool.false_or, Bool.or_false] at c53s))
           obtain rfl := Option.some.inj H
           obtain ⟨hcz56_0, hcz56_1, hcz56_2, hcz56_3, hcz56_4, hfz56_0, hfz56_1, hfz56_2, hfz56_3, hfz56_4⟩ := bx5 BK301.out
           go_wp2
           go_ret
           exact ⟨by first | rfl | (simp [errW_none, errW_some] <;> rfl) | (simp [*, errW_none, errW_some] <;> rfl), by repeat (first | (with_reducible first | exact HB.out | apply below_alloc | apply pw_below_drewN | apply below_drew1 | refine below_set ?_ GE301.out) | exact HB.out)⟩
         ·
          rw [if_neg c52] at H
          have c52b0 : (a1_0 == 5) = false := beq_eq_false_iff_ne.mpr c52
          have c52b1 : (a1_0 != 5) = true := bne_iff_ne.mpr c52
          obtain rfl := Option.some.inj H
          go_wp2
          go_ret
          exact ⟨by first | rfl | (simp [errW_none, errW_some] <;> rfl) | (simp [*, errW_none, errW_some] <;> rfl), by repeat (first | (with_reducible first | exact HB.out | apply below_alloc | apply pw_below_drewN | apply below_drew1 | refine below_set ?_ GE301.out) | exact HB.out)⟩
end Go.Proofs.Ytfpcfaapoeeipaa.P
namespace Go.Proofs.Ytfpcfaapoeeipaa.P
open Go.RowKit Go.Proofs.YtfpcfaapoeeipaaW.PrintWords Go.Proofs.YtfpcfaapoeeipaaW.PrintLast Go.Proofs.YtfpcfaapoeeipaaW.PrintMore
attribute [local go_sem] max2_int min2_int max_two min_two
set_option linter.unusedVariables false
set_option linter.unusedSimpArgs false
def impl_holds.f (a0 : Int) (a1 : Int) (a2 : Int) (a3 : Int) : Option (Bool) := (impl_signedOf.f a1 a2).bind fun t338 => ((impl_signedOf.f a1 a3).bind fun t339 => (if a0 = 0 then (some (a2 == a3)) else (if a0 = 1 then (some (a2 != a3)) else (if a0 = 2 then (some (decide (a2 < a3))) else (if a0 = 3 then (some (decide (a2 ≤ a3))) else (if a0 = 4 then (some (decide (t338 < t339))) else (some (decide (t338 ≤ t339)))))))))
set_option maxHeartbeats 8000000 in
set_option maxRecDepth 100000 in
theorem impl_holds.calls (a0 : Int) (a1 : Int) (a2 : Int) (a3 : Int) (r : Bool) (w : World) (h : impl_holds.f a0 a1 a2 a3 = some r) :
  Calls Try.prog 106 #[.int .i64 a0, .int .i64 a1, .int .i64 a2, .int .i64 a3] w fun e w' => e = .returned (.bool r) ∧ Drawn0 w w' := by
 have H : ((impl_signedOf.f a1 a2).bind fun t338 => ((impl_signedOf.f a1 a3).bind fun t339 => (if a0 = 0 then (some (a2 == a3)) else (if a0 = 1 then (some (a2 != a3)) else (if a0 = 2 then (some (decide (a2 < a3))) else (if a0 = 3 then (some (decide (a2 ≤ a3))) else (if a0 = 4 then (some (decide (t338 < t339))) else (some (decide (t338 ≤ t339)))))))))) = some r := h
 clear h
 replace H := Option.bind_eq_some_iff.mp H
 obtain ⟨t338, A50, H⟩ := H
 replace H : ((impl_signedOf.f a1 a3).bind fun t339 => (if a0 = 0 then (some (a2 == a3)) else (if a0 = 1 then (some (a2 != a3)) else (if a0 = 2 then (some (decide (a2 < a3))) else (if a0 = 3 then (some (decide (a2 ≤ a3))) else (if a0 = 4 then (some (decide (t338 < t339))) else (some (decide (t338 ≤ t339))))))))) = some r := H
 have A5 := am A50
 clear A50
 replace H := Option.bind_eq_some_iff.mp H
 obtain ⟨t339, A60, H⟩ := H
 replace H : (if a0 = 0 then (some (a2 == a3)) else (if a0 = 1 then (some (a2 != a3)) else (if a0 = 2 then (some (decide (a2 < a3))) else (if a0 = 3 then (some (decide (a2 ≤ a3))) else (if a0 = 4 then (some (decide (t338 < t339))) else (some (decide (t338 ≤ t339)))))))) = some r := H
 have A6 := am A60
 clear A60
 by_cases c7 : a0 = 0
 ·
  rw [if_pos c7] at H
  have c7b0 : (a0 == 0) = true := beq_iff_eq.mpr c7
  have c7b1 : (a0 != 0) = false := bne_eq_false_iff_eq.mpr c7
  clear c7
  obtain rfl := Option.some.inj H
  go_enter Try.func106, Try.ntmps106
  go_wp2_with (first | ((with_reducible refine gate_callee (f := 136) rfl ?_); refine goesL_ (some 13) rfl rfl Try.func136 (by kernel_rfl) rfl #[.int .i64 a1, .int .i64 a2] rfl (by (try simp only [List.map_toArray, List.map_cons, List.map_nil]); first | done | rfl | (simp only [List.length_drop, List.length_take]; rfl)) ?_; (with_reducible refine (impl_signedOf.calls a1 a2 t338 _ A5.out).mono ?_); rintro e w' ⟨rfl, ⟨nd, rfl⟩⟩; refine ⟨_, rfl, ?_⟩) | ((with_reducible refine gate_callee (f := 136) rfl ?_); refine goesL_ (some 16) rfl rfl Try.func136 (by kernel_rfl) rfl #[.int .i64 a1, .int .i64 a3] rfl (by (try simp only [List.map_toArray, List.map_cons, List.map_nil]); first | done | rfl | (simp only [List.length_drop, List.length_take]; rfl)) ?_; (with_reducible refine (impl_signedOf.calls a1 a3 t339 _ A6.out).mono ?_); rintro e w' ⟨rfl, ⟨nd, rfl⟩⟩; refine ⟨_, rfl, ?_⟩))
  go_ret
  exact ⟨by first | rfl | (simp; done) | (simp [*]; done), by repeat (first | exact Drawn0.refl _ | apply Drawn0.step)⟩
 ·
  rw [if_neg c7] at H
  have c7b0 : (a0 == 0) = false := beq_eq_false_iff_ne.mpr c7
  have c7b1 : (a0 != 0) = true := bne_iff_ne.mpr c7
  by_cases c8 : a0 = 1
  ·
   rw [if_pos c8] at H
   have c8b0 : (a0 == 1) = true := beq_iff_eq.mpr c8
   have c8b1 : (a0 != 1) = false := bne_eq_false_iff_eq.mpr c8
   clear c8
   obtain rfl := Option.some.inj H
   go_enter Try.func106, Try.ntmps106
   go_wp2_with (first | ((with_reducible refine gate_callee (f := 136) rfl ?_); refine goesL_ (some 13) rfl rfl Try.func136 (by kernel_rfl) rfl #[.int .i64 a1, .int .i64 a2] rfl (by (try simp only [List.map_toArray, List.map_cons, List.map_nil]); first | done | rfl | (simp only [List.length_drop, List.length_take]; rfl)) ?_; (with_reducible refine (impl_signedOf.calls a1 a2 t338 _ A5.out).mono ?_); rintro e w' ⟨rfl, ⟨nd, rfl⟩⟩; refine ⟨_, rfl, ?_⟩) | ((with_reducible refine gate_callee (f := 136) rfl ?_); refine goesL_ (some 16) rfl rfl Try.func136 (by kernel_rfl) rfl #[.int .i64 a1, .int .i64 a3] rfl (by (try simp only [List.map_toArray, List.map_cons, List.map_nil]); first | done | rfl | (simp only [List.length_drop, List.length_take]; rfl)) ?_; (with_reducible refine (impl_signedOf.calls a1 a3 t339 _ A6.out).mono ?_); rintro e w' ⟨rfl, ⟨nd, rfl⟩⟩; refine ⟨_, rfl, ?_⟩))
   go_ret
   exact ⟨by first | rfl | (simp; done) | (simp [*]; done), by repeat (first | exact Drawn0.refl _ | apply Drawn0.step)⟩
  ·
   rw [if_neg c8] at H
   have c8b0 : (a0 == 1) = false := beq_eq_false_iff_ne.mpr c8
   have c8b1 : (a0 != 1) = true := bne_iff_ne.mpr c8
   by_cases c9 : a0 = 2
   ·
    rw [if_pos c9] at H
    have c9b0 : (a0 == 2) = true := beq_iff_eq.mpr c9
    have c9b1 : (a0 != 2) = false := bne_eq_false_iff_eq.mpr c9
    clear c9
    obtain rfl := Option.some.inj H
    go_enter Try.func106, Try.ntmps106
    go_wp2_with (first | ((with_reducible refine gate_callee (f := 136) rfl ?_); refine goesL_ (some 13) rfl rfl Try.func136 (by kernel_rfl) rfl #[.int .i64 a1, .int .i64 a2] rfl (by (try simp only [List.map_toArray, List.map_cons, List.map_nil]); first | done | rfl | (simp only [List.length_drop, List.length_take]; rfl)) ?_; (with_reducible refine (impl_signedOf.calls a1 a2 t338 _ A5.out).mono ?_); rintro e w' ⟨rfl, ⟨nd, rfl⟩⟩; refine ⟨_, rfl, ?_⟩) | ((with_reducible refine gate_callee (f := 136) rfl ?_); refine goesL_ (some 16) rfl rfl Try.func136 (by kernel_rfl) rfl #[.int .i64 a1, .int .i64 a3] rfl (by (try simp only [List.map_toArray, List.map_cons, List.map_nil]); first | done | rfl | (simp only [List.length_drop, List.length_take]; rfl)) ?_; (with_reducible refine (impl_signedOf.calls a1 a3 t339 _ A6.out).mono ?_); rintro e w' ⟨rfl, ⟨nd, rfl⟩⟩; refine ⟨_, rfl, ?_⟩))
    go_ret
    exact ⟨by first | rfl | (simp; done) | (simp [*]; done), by repeat (first | exact Drawn0.refl _ | apply Drawn0.step)⟩
   ·
    rw [if_neg c9] at H
    have c9b0 : (a0 == 2) = false := beq_eq_false_iff_ne.mpr c9
    have c9b1 : (a0 != 2) = true := bne_iff_ne.mpr c9
    by_cases c10 : a0 = 3
    ·
     rw [if_pos c10] at H
     have c10b0 : (a0 == 3) = true := beq_iff_eq.mpr c10
     have c10b1 : (a0 != 3) = false := bne_eq_false_iff_eq.mpr c10
     clear c10
     obtain rfl := Option.some.inj H
     go_enter Try.func106, Try.ntmps106
     go_wp2_with (first | ((with_reducible refine gate_callee (f := 136) rfl ?_); refine goesL_ (some 13) rfl rfl Try.func136 (by kernel_rfl) rfl #[.int .i64 a1, .int .i64 a2] rfl (by (try simp only [List.map_toArray, List.map_cons, List.map_nil]); first | done | rfl | (simp only [List.length_drop, List.length_take]; rfl)) ?_; (with_reducible refine (impl_signedOf.calls a1 a2 t338 _ A5.out).mono ?_); rintro e w' ⟨rfl, ⟨nd, rfl⟩⟩; refine ⟨_, rfl, ?_⟩) | ((with_reducible refine gate_callee (f := 136) rfl ?_); refine goesL_ (some 16) rfl rfl Try.func136 (by kernel_rfl) rfl #[.int .i64 a1, .int .i64 a3] rfl (by (try simp only [List.map_toArray, List.map_cons, List.map_nil]); first | done | rfl | (simp only [List.length_drop, List.length_take]; rfl)) ?_; (with_reducible refine (impl_signedOf.calls a1 a3 t339 _ A6.out).mono ?_); rintro e w' ⟨rfl, ⟨nd, rfl⟩⟩; refine ⟨_, rfl, ?_⟩))
     go_ret
     exact ⟨by first | rfl | (simp; done) | (simp [*]; done), by repeat (first | exact Drawn0.refl _ | apply Drawn0.step)⟩
    ·
     rw [if_neg c10] at H
     have c10b0 : (a0 == 3) = false := beq_eq_false_iff_ne.mpr c10
     have c10b1 : (a0 != 3) = true := bne_iff_ne.mpr c10
     by_cases c11 : a0 = 4
     ·
      rw [if_pos c11] at H
      have c11b0 : (a0 == 4) = true := beq_iff_eq.mpr c11
      have c11b1 : (a0 != 4) = false := bne_eq_false_iff_eq.mpr c11
      clear c11
      obtain rfl := Option.some.inj H
      go_enter Try.func106, Try.ntmps106
      go_wp2_with (first | ((with_reducible refine gate_callee (f := 136) rfl ?_); refine goesL_ (some 13) rfl rfl Try.func136 (by kernel_rfl) rfl #[.int .i64 a1, .int .i64 a2] rfl (by (try simp only [List.map_toArray, List.map_cons, List.map_nil]); first | done | rfl | (simp only [List.length_drop, List.length_take]; rfl)) ?_; (with_reducible refine (impl_signedOf.calls a1 a2 t338 _ A5.out).mono ?_); rintro e w' ⟨rfl, ⟨nd, rfl⟩⟩; refine ⟨_, rfl, ?_⟩) | ((with_reducible refine gate_callee (f := 136) rfl ?_); refine goesL_ (some 16) rfl rfl Try.func136 (by kernel_rfl) rfl #[.int .i64 a1, .int .i64 a3] rfl (by (try simp only [List.map_toArray, List.map_cons, List.map_nil]); first | done | rfl | (simp only [List.length_drop, List.length_take]; rfl)) ?_; (with_reducible refine (impl_signedOf.calls a1 a3 t339 _ A6.out).mono ?_); rintro e w' ⟨rfl, ⟨nd, rfl⟩⟩; refine ⟨_, rfl, ?_⟩))
      go_ret
      exact ⟨by first | rfl | (simp; done) | (simp [*]; done), by repeat (first | exact Drawn0.refl _ | apply Drawn0.step)⟩
     ·
      rw [if_neg c11] at H
      have c11b0 : (a0 == 4) = false := beq_eq_false_iff_ne.mpr c11
      have c11b1 : (a0 != 4) = true := bne_iff_ne.mpr c11
      obtain rfl := Option.some.inj H
      go_enter Try.func106, Try.ntmps106
      go_wp2_with (first | ((with_reducible refine gate_callee (f := 136) rfl ?_); refine goesL_ (some 13) rfl rfl Try.func136 (by kernel_rfl) rfl #[.int .i64 a1, .int .i64 a2] rfl (by (try simp only [List.map_toArray, List.map_cons, List.map_nil]); first | done | rfl | (simp only [List.length_drop, List.length_take]; rfl)) ?_; (with_reducible refine (impl_signedOf.calls a1 a2 t338 _ A5.out).mono ?_); rintro e w' ⟨rfl, ⟨nd, rfl⟩⟩; refine ⟨_, rfl, ?_⟩) | ((with_reducible refine gate_callee (f := 136) rfl ?_); refine goesL_ (some 16) rfl rfl Try.func136 (by kernel_rfl) rfl #[.int .i64 a1, .int .i64 a3] rfl (by (try simp only [List.map_toArray, List.map_cons, List.map_nil]); first | done | rfl | (simp only [List.length_drop, List.length_take]; rfl)) ?_; (with_reducible refine (impl_signedOf.calls a1 a3 t339 _ A6.out).mono ?_); rintro e w' ⟨rfl, ⟨nd, rfl⟩⟩; refine ⟨_, rfl, ?_⟩))
      go_ret
      exact ⟨by first | rfl | (simp; done) | (simp [*]; done), by repeat (first | exact Drawn0.refl _ | apply Drawn0.step)⟩
end Go.Proofs.Ytfpcfaapoeeipaa.P
