/- Contracts of functions of the given program, written by a program of this session out of the translation: each says that a call of the function does what the Lean function of its name says. -/
import Derived.Test.YtfpcfaapoeeipaaVcy0
import Derived.Test.YtfpcfaapoeeipaaVcp0
namespace Go.Proofs.Ytfpcfaapoeeipaa.P
open Go.RowKit Go.Proofs.YtfpcfaapoeeipaaW.PrintWords Go.Proofs.YtfpcfaapoeeipaaW.PrintLast Go.Proofs.YtfpcfaapoeeipaaW.PrintMore
attribute [local go_sem] max2_int min2_int max_two min_two
set_option linter.unusedVariables false
set_option linter.unusedSimpArgs false
mutual
def spec_l08Pairs.l0 : Nat → Int → List (S75) → List Int → Int → Option (List Int × Bool)
 | 0, _, _, _, _ => none
 | k + 1, x0, x1, x6, x7 => if x7 < (x1.length : Int) then (spec_l08Pairs.j1 k x0 x1 x6 x7 (decide ((x1.length : Int) ≤ 24))) else (spec_l08Pairs.j1 k x0 x1 x6 x7 false)
def spec_l08Pairs.j1 : Nat → Int → List (S75) → List Int → Int → Bool → Option (List Int × Bool)
 | 0, _, _, _, _, _ => none
 | k + 1, x0, x1, x6, x7, x25 => if x25 = true then (if 0 ≤ x7 then (if x7 < (x1.length : Int) then ((spec_l08Line.f k x0 ((rd_T75 x1 x7).f0) ((rd_T75 x1 x7).f1) ((rd_T75 x1 x7).f2) ((rd_T75 x1 x7).f3) ((rd_T75 x1 x7).f4)).bind fun t133 => (if t133 = true then (if x6.length < 17592186044416 then (spec_l08Pairs.l0 k x0 x1 (x6 ++ [x7]) (wrap64 (x7 + 1))) else (none)) else (some (x6, false)))) else (none)) else (none)) else (spec_l08Pairs.l1 k x1 x6 (([] : List Int)) (([] : List Int)) (([] : List (List Int))) 0)
def spec_l08Pairs.l1 : Nat → List (S75) → List Int → List Int → List Int → List (List Int) → Int → Option (List Int × Bool)
 | 0, _, _, _, _, _, _ => none
 | k + 1, x1, x6, x8, x9, x10, x11 => if x11 < (x6.length : Int) then (if 0 ≤ x11 then (if x11 < (x1.length : Int) then (if ((rd_T75 x1 x11).f0) = 2 then (spec_l08Pairs.j3 k x1 x6 x8 x9 x10 x11 (x8.length : Int) ((rd_T75 x1 x11).f0) (((rd_T75 x1 x11).f0) == 2)) else (spec_l08Pairs.j3 k x1 x6 x8 x9 x10 x11 (x8.length : Int) ((rd_T75 x1 x11).f0) (((rd_T75 x1 x11).f0) == 5))) else (none)) else (none)) else (if (x8.length : Int) = 0 then (some (x6, decide ((x1.length : Int) ≤ 24))) else (some (x6, false)))
def spec_l08Pairs.j3 : Nat → List (S75) → List Int → List Int → List Int → List (List Int) → Int → Int → Int → Bool → Option (List Int × Bool)
 | 0, _, _, _, _, _, _, _, _, _ => none
 | k + 1, x1, x6, x8, x9, x10, x11, x13, x56, x57 => if x57 = true then (if x8.length < 17592186044416 then ((some (x8 ++ [x11] : List Int)).bind fun y147 => (if x9.length < 17592186044416 then (if x10.length < 5864062014805 then (if (wrap64 (x13 + 1)) > 4 then (some (x6, false)) else ((spec_l08Rounds.f k x1 y147).bind fun t159 => (if t159 > 64 then (some (x6, false)) else (spec_l08Pairs.l1 k x1 x6 y147 (x9 ++ [x11]) (x10 ++ [(([] : List Int))]) (wrap64 (x11 + 1)))))) else (none)) else (none))) else (none)) else (if x56 = 3 then (if x13 = 0 then (some (x6, false)) else (if 0 ≤ (wrap64 (x13 - 1)) then (if (wrap64 (x13 - 1)) < (x9.length : Int) then (if 0 ≤ (rd x9 (wrap64 (x13 - 1))) then (if (rd x9 (wrap64 (x13 - 1))) < (x1.length : Int) then (if ((rd_T75 x1 (rd x9 (wrap64 (x13 - 1)))).f0) = 2 then (if (rd x9 (wrap64 (x13 - 1))) < (x6.length : Int) then (spec_l08Pairs.l1 k x1 (x6.set ((rd x9 (wrap64 (x13 - 1))) : Int).toNat x11) x8 (x9.set ((wrap64 (x13 - 1)) : Int).toNat x11) x10 (wrap64 (x11 + 1))) else (none)) else (some (x6, false))) else (none)) else (none)) else (none)) else (none))) else (if x56 = 4 then (if x13 = 0 then (some (x6, false)) else (if 0 ≤ (wrap64 (x13 - 1)) then (if (wrap64 (x13 - 1)) < (x9.length : Int) then (if 0 ≤ (rd x9 (wrap64 (x13 - 1))) then (if (rd x9 (wrap64 (x13 - 1))) < (x6.length : Int) then (if (wrap64 (x13 - 1)) < (x8.length : Int) then (if 0 ≤ x11 then (if x11 < (x6.length : Int) then (spec_l08Pairs.l2 k x1 ((x6.set ((rd x9 (wrap64 (x13 - 1))) : Int).toNat x11).set (x11 : Int).toNat (rd x8 (wrap64 (x13 - 1)))) x8 x9 x10 x11 x13 0) else (none)) else (none)) else (none)) else (none)) else (none)) else (none)) else (none))) else (if x56 = 6 then (spec_l08Pairs.l3 k x1 x6 x8 x9 x10 x11 (wrap64 (x13 - 1))) else (spec_l08Pairs.l1 k x1 x6 x8 x9 x10 (wrap64 (x11 + 1))))))
def spec_l08Pairs.l2 : Nat → List (S75) → List Int → List Int → List Int → List (List Int) → Int → Int → Int → Option (List Int × Bool)
 | 0, _, _, _, _, _, _, _, _ => none
 | k + 1, x1, x6, x8, x9, x10, x11, x13, x14 => if 0 ≤ (wrap64 (x13 - 1)) then (if (wrap64 (x13 - 1)) < (x10.length : Int) then (if x14 < ((rd_L3 x10 (wrap64 (x13 - 1))).length : Int) then (if 0 ≤ x14 then (if 0 ≤ (rd (rd_L3 x10 (wrap64 (x13 - 1))) x14) then (if (rd (rd_L3 x10 (wrap64 (x13 - 1))) x14) < (x6.length : Int) then (spec_l08Pairs.l2 k x1 (x6.set ((rd (rd_L3 x10 (wrap64 (x13 - 1))) x14) : Int).toNat x11) x8 x9 x10 x11 x13 (wrap64 (x14 + 1))) else (none)) else (none)) else (none)) else (if (wrap64 (x13 - 1)) ≤ (x8.length : Int) then (if (wrap64 (x13 - 1)) ≤ (x9.length : Int) then (if (wrap64 (x13 - 1)) ≤ (x10.length : Int) then (spec_l08Pairs.l1 k x1 x6 (x8.take ((wrap64 (x13 - 1)) : Int).toNat) (x9.take ((wrap64 (x13 - 1)) : Int).toNat) (x10.take ((wrap64 (x13 - 1)) : Int).toNat) (wrap64 (x11 + 1))) else (none)) else (none)) else (none))) else (none)) else (none)
def spec_l08Pairs.l3 : Nat → List (S75) → List Int → List Int → List Int → List (List Int) → Int → Int → Option (List Int × Bool)
 | 0, _, _, _, _, _, _, _ => none
 | k + 1, x1, x6, x8, x9, x10, x11, x15 => if x15 ≥ 0 then (if 0 ≤ x15 then (if x15 < (x8.length : Int) then (if 0 ≤ (rd x8 x15) then (if (rd x8 x15) < (x1.length : Int) then (if ((rd_T75 x1 (rd x8 x15)).f0) = 5 then (if x15 < 0 then (some (x6, false)) else (if x15 < (x10.length : Int) then (if (rd_L3 x10 x15).length < 17592186044416 then (spec_l08Pairs.l1 k x1 x6 x8 x9 (x10.set (x15 : Int).toNat ((rd_L3 x10 x15) ++ [x11])) (wrap64 (x11 + 1))) else (none)) else (none))) else (spec_l08Pairs.l3 k x1 x6 x8 x9 x10 x11 (wrap64 (x15 - 1)))) else (none)) else (none)) else (none)) else (none)) else (if x15 < 0 then (some (x6, false)) else (if 0 ≤ x15 then (if x15 < (x10.length : Int) then (if (rd_L3 x10 x15).length < 17592186044416 then (spec_l08Pairs.l1 k x1 x6 x8 x9 (x10.set (x15 : Int).toNat ((rd_L3 x10 x15) ++ [x11])) (wrap64 (x11 + 1))) else (none)) else (none)) else (none)))
end
def spec_l08Pairs.f (k : Nat) (a0 : Int) (l1 : List (S75)) : Option (List Int × Bool) := spec_l08Pairs.l0 k a0 l1 (([] : List Int)) 0
set_option maxHeartbeats 8000000 in
set_option maxRecDepth 100000 in
theorem spec_l08Pairs.calls (k : Nat) (a0 : Int) (A1 : Option Addr) (c1 : Nat) (l1 : List (S75)) (r1 : List Int) (r2 : Bool) (w : World) (hr1 : Kd.C k75 w A1 l1.length l1) (hc1 : l1.length ≤ c1) (h : spec_l08Pairs.f k a0 l1 = some (r1, r2)) :
  Calls Try.prog 101 #[.int .i64 a0, .slice A1 l1.length c1] w fun e w' => ∃ v0_ : Value, e = .returned (.tuple #[v0_, .bool r2]) ∧ Kd.R (Kd.int .i64) 2 w' w.heap.size (fun _ => True) v0_ r1 ∧ Below w.heap.size w w' := by
 have hu75 := Try.underlying75
 have HR1 := am hr1
 have HC1 := am hc1
 clear hr1 hc1
 have HB := am (Below.refl w.heap.size w)
 have H : (spec_l08Pairs.l0 k a0 l1 (([] : List Int)) 0) = some (r1, r2) := h
 clear h
 obtain ⟨y129, hy129⟩ : ∃ y_ : List Int, y_ = (([] : List Int)) := ⟨_, rfl⟩
 replace H : (spec_l08Pairs.l0 k a0 l1 y129 0) = some (r1, r2) := by first | (rw [hy129]; with_reducible exact H) | (have H2_ := bsm H; rw [hy129]; with_reducible exact H2_) | (have H2_ := bsm H; exact H2_) | (rw [hy129]; exact H) | exact H
 have Ny129 := am hy129; clear hy129; have H' := am H; clear H
 go_enter Try.func101, Try.ntmps101
 go_wp2_with (first | ((with_reducible refine gate_dst (N := 16) rfl ?_); (try (refine gate_guard (by rfl) ?_; dsimp only)); refine Kd.R_lit (Kd.int .i64) _ 2 ?hg (N := 16) ?hd (xs := ([] : List Int)) (inner := []) (ok := fun _ => True) (okp := fun _ => True) ?hr ?hp (fun _ hk => hk) trivial (Below.refl _ _) (Nat.le_refl _) (by simp) ?_; (case hd => rfl); (case hg => rfl); (case hr => first | (go_simp; done) | (go_simp; rfl)); (case hp => exact (Reps.none _ _)); intro v130 w3 ho4 hb hg_ hnew_; clear hg_ hnew_; (first | rw [← Ny129.out] at ho4 | (simp only [Int.reduceToNat] at ho4; rw [← Ny129.out] at ho4)); have n0_ := am (Kd.R_lower ho4 (below_size (bst HB))); have n1_ := am (below_step (bst HB) hb); clear HB; have HO131 := n0_; have HB := n1_; clear n0_ n1_; clear hb ho4))
 go_loopg [6, 7] k (fun kq v6 v7 w' => ∃ (x6_1 : List Int) (x7_1 : Int), v7 = .int .i64 x7_1 ∧ Aside0 (spec_l08Pairs.l0 kq a0 l1 x6_1 x7_1 = some (r1, r2)) ∧ Aside0 (kq ≤ k) ∧ Aside0 (Kd.R (Kd.int .i64) 2 w' w.heap.size (fun _ => True) v6 x6_1) ∧ Aside0 (Below w.heap.size w w'))
 case atStart => exact ⟨(y129), (0), (by first | rfl | (simp; done) | (simp [*]; done)), H', ⟨Nat.le_refl _⟩, ⟨by first | exact rst HO131.out | exact Kd.R_mono (rst HO131.out) (by intro k_ hk_; simpa only [ob_eq] using hk_)⟩, ⟨bst HB⟩⟩
 case round =>
  clear H'; (try clear c1); (try clear p2)
  obtain ⟨x6_1, x7_1, rfl, HA, HK1, HO_6, HB⟩ := hrel
  cases gk with
  | zero => exact absurd HA.out (by simp [spec_l08Pairs.l0])
  | succ k1 =>
   have H := HA.out
   clear HA
   simp only [spec_l08Pairs.l0] at H
   have HC5 := am H
   clear H
   go_upto_region 3 with (fail)
   go_cut [25] (fun v25 wc => ∃ (kq : Nat) (x25_4 : Bool), v25 = .bool x25_4 ∧ Aside0 (spec_l08Pairs.j1 kq a0 l1 x6_1 x7_1 x25_4 = some (r1, r2)) ∧ Aside0 (kq ≤ k1) ∧ Aside0 (Kd.R (Kd.int .i64) 2 wc w.heap.size (fun _ => True) u6 x6_1) ∧ Aside0 (Below w.heap.size w wc))
   case first =>
    have H := HC5.out
    clear HC5
    by_cases c6 : x7_1 < (l1.length : Int)
    ·
     rw [if_pos c6] at H
     have c6b0 : decide (x7_1 < (l1.length : Int)) = true := decide_eq_true c6
     clear c6
     (first | rw [c6b0] | (simp only [i64_w, i32_w]; rw [c6b0]) | skip)
     have H' := am H; clear H
     go_wp2
     go_meet
     case rel => exact ⟨_, (decide ((l1.length : Int) ≤ 24)), (by first | rfl | (simp; done) | (simp [*]; done)), H', ⟨by have := HK1.out; first | omega | exact Nat.le_refl _⟩, ⟨by first | exact rst HO_6.out | exact Kd.R_mono (rst HO_6.out) (by intro k_ hk_; simpa only [ob_eq] using hk_)⟩, ⟨bst HB⟩⟩
    ·
     rw [if_neg c6] at H
     have c6b0 : decide (x7_1 < (l1.length : Int)) = false := decide_eq_false c6
     clear c6
     (first | rw [c6b0] | (simp only [i64_w, i32_w]; rw [c6b0]) | skip)
     have H' := am H; clear H
     go_wp2
     go_meet
     case rel => exact ⟨_, (false), (by first | rfl | (simp; done) | (simp [*]; done)), H', ⟨by have := HK1.out; first | omega | exact Nat.le_refl _⟩, ⟨by first | exact rst HO_6.out | exact Kd.R_mono (rst HO_6.out) (by intro k_ hk_; simpa only [ob_eq] using hk_)⟩, ⟨bst HB⟩⟩
   case rest =>
    clear HC5; (try clear c1); (try clear p2); (try clear c6); (try clear c6b0); (try clear p2)
    obtain ⟨kq, x25_4, rfl, HA, HJ4, HO_6, HB⟩ := hcut
    cases kq with
    | zero => exact absurd HA.out (by simp [spec_l08Pairs.j1])
    | succ kj4 =>
     have H := HA.out
     clear HA
     simp only [spec_l08Pairs.j1] at H
     by_cases c7 : x25_4 = true
     ·
      subst c7
      have H1 : (if 0 ≤ x7_1 then (if x7_1 < (l1.length : Int) then ((spec_l08Line.f kj4 a0 ((rd_T75 l1 x7_1).f0) ((rd_T75 l1 x7_1).f1) ((rd_T75 l1 x7_1).f2) ((rd_T75 l1 x7_1).f3) ((rd_T75 l1 x7_1).f4)).bind fun t133 => (if t133 = true then (if x6_1.length < 17592186044416 then (spec_l08Pairs.l0 kj4 a0 l1 (x6_1 ++ [x7_1]) (wrap64 (x7_1 + 1))) else (none)) else (some (x6_1, false)))) else (none)) else (none)) = some (r1, r2) := by rw [if_pos rfl] at H; exact H
      clear H
      have H := H1
      clear H1
      replace H := ifp H; obtain ⟨c8, H⟩ := H
      have c8b0 : decide (0 ≤ x7_1) = true := decide_eq_true c8
      clear c8
      replace H := ifp H; obtain ⟨c9, H⟩ := H
      have c9b0 : decide (x7_1 < (l1.length : Int)) = true := decide_eq_true c9
      clear c9
      replace H := Option.bind_eq_some_iff.mp H
      obtain ⟨t133, A100, H⟩ := H
      replace H : (if t133 = true then (if x6_1.length < 17592186044416 then (spec_l08Pairs.l0 kj4 a0 l1 (x6_1 ++ [x7_1]) (wrap64 (x7_1 + 1))) else (none)) else (some (x6_1, false))) = some (r1, r2) := H
      have A10 := am A100
      clear A100
      by_cases c11 : t133 = true
      ·
       subst c11
       have H1 : (if x6_1.length < 17592186044416 then (spec_l08Pairs.l0 kj4 a0 l1 (x6_1 ++ [x7_1]) (wrap64 (x7_1 + 1))) else (none)) = some (r1, r2) := by rw [if_pos rfl] at H; exact H
       clear H
       have H := H1
       clear H1
       replace H := ifp H; obtain ⟨c12, H⟩ := H
       have LMc12 := am c12
       clear c12
       obtain ⟨y134, hy134⟩ : ∃ y_ : List Int, y_ = (x6_1 ++ [x7_1]) := ⟨_, rfl⟩
       replace H : (spec_l08Pairs.l0 kj4 a0 l1 y134 (wrap64 (x7_1 + 1))) = some (r1, r2) := by first | (rw [hy134]; with_reducible exact H) | (have H2_ := bsm H; rw [hy134]; with_reducible exact H2_) | (have H2_ := bsm H; exact H2_) | (rw [hy134]; exact H) | exact H
       have Ny134 := am hy134; clear hy134; have H' := am H; clear H
       have p132 : 0 ≤ (x7_1 : Int) := od (by assumption)
       have q132 : x7_1 < (l1.length : Int) := od (by assumption)
       obtain ⟨ad132, e132, hx132_0, hx132_1, hx132_2, hx132_3, hx132_4⟩ := at_T75 HR1.out x7_1 p132 q132
       cases e132
       replace hx132_0 := bc HB hx132_0
       replace hx132_1 := bc HB hx132_1
       replace hx132_2 := bc HB hx132_2
       replace hx132_3 := bc HB hx132_3
       replace hx132_4 := bc HB hx132_4
       replace p132 := eq_true p132; replace q132 := eq_true q132
       go_wp2_with (first | ((with_reducible refine gate_callee (f := 128) rfl ?_); refine goesL_ (some 33) rfl rfl Try.func128 (by kernel_rfl) rfl #[.int .i64 a0, .agg #[.int .i64 ((rd_T75 l1 x7_1).f0), .int .i64 ((rd_T75 l1 x7_1).f1), .int .i64 ((rd_T75 l1 x7_1).f2), .int .i64 ((rd_T75 l1 x7_1).f3), .int .i64 ((rd_T75 l1 x7_1).f4)]] rfl (by (try simp only [List.map_toArray, List.map_cons, List.map_nil]); first | done | rfl | (simp only [List.length_drop, List.length_take]; rfl)) ?_; (with_reducible refine (spec_l08Line.calls kj4 a0 ((rd_T75 l1 x7_1).f0) ((rd_T75 l1 x7_1).f1) ((rd_T75 l1 x7_1).f2) ((rd_T75 l1 x7_1).f3) ((rd_T75 l1 x7_1).f4) true _ A10.out).mono ?_); rintro e w13 ⟨rfl, hb⟩; refine ⟨_, rfl, ?_⟩; have n0_ := am (Kd.R_below (rst HO_6.out) hb); have n1_ := am (below_step (bst HB) hb); clear HO_6; clear HB; have HO_6 := n0_; have HB := n1_; clear n0_ n1_; (try clear hb); (try clear hb2); (try clear hk); (try clear hi)) | ((with_reducible refine gate_builtin (b := .append) (xs := #[.tmp 36, .tmp 38]) rfl ?_); (try (refine gate_guard (by rfl) ?_; dsimp only)); at_builtin; refine Kd.R_append (Kd.int .i64) (w0 := w) w.heap.size rfl (.tmp 36) (.tmp 38) 22 2 (.int .i64 0) 8 rfl Try.underlying22 info2 rfl (by decide) (by omega) u6 x6_1 x7_1 [.int .i64 x7_1] (fun _ => True) (fun _ => False) rfl rfl ?aP (fun _ hk => hk.elim) ?aF ?aO ?aB ?aS ?aL ?_; (case aP => exact rfl); (case aB => exact (bst HB)); (case aF => exact (fun _ _ => trivial)); (case aO => exact (rst HO_6.out)); (case aS => exact (below_size (bst HB))); (case aL => have := LMc12.out; omega); intro v135 w14 ho hb hg hat; rw [← Ny134.out] at ho; have n0_ := am (hb); have n1_ := am (ho); clear HB; clear HO_6; have HB := n0_; have HO136 := n1_; clear n0_ n1_; clear ho hb hg hat))
       go_roundg kj4
       case measure => have := HK1.out; have := HJ4.out; omega
       case rel => exact ⟨(y134), (wrap64 (x7_1 + 1)), (by first | rfl | (simp; done) | (simp [*]; done)), H', ⟨by have := HK1.out; have := HJ4.out; omega⟩, ⟨by first | exact rst HO136.out | exact Kd.R_mono (rst HO136.out) (by intro k_ hk_; simpa only [ob_eq] using hk_)⟩, ⟨bst HB⟩⟩
      ·
       replace c11 := Bool.eq_false_iff.mpr c11
       subst c11
       have H1 : (some (x6_1, false)) = some (r1, r2) := by rw [if_neg (show ¬ (false = true) by decide)] at H; exact H
       clear H
       have H := H1
       clear H1
       simp only [Option.some.injEq, Prod.mk.injEq] at H
       obtain ⟨rfl, rfl⟩ := H
       have p132 : 0 ≤ (x7_1 : Int) := od (by assumption)
       have q132 : x7_1 < (l1.length : Int) := od (by assumption)
       obtain ⟨ad132, e132, hx132_0, hx132_1, hx132_2, hx132_3, hx132_4⟩ := at_T75 HR1.out x7_1 p132 q132
       cases e132
       replace hx132_0 := bc HB hx132_0
       replace hx132_1 := bc HB hx132_1
       replace hx132_2 := bc HB hx132_2
       replace hx132_3 := bc HB hx132_3
       replace hx132_4 := bc HB hx132_4
       replace p132 := eq_true p132; replace q132 := eq_true q132
       go_wp2_with (first | ((with_reducible refine gate_callee (f := 128) rfl ?_); refine goesL_ (some 33) rfl rfl Try.func128 (by kernel_rfl) rfl #[.int .i64 a0, .agg #[.int .i64 ((rd_T75 l1 x7_1).f0), .int .i64 ((rd_T75 l1 x7_1).f1), .int .i64 ((rd_T75 l1 x7_1).f2), .int .i64 ((rd_T75 l1 x7_1).f3), .int .i64 ((rd_T75 l1 x7_1).f4)]] rfl (by (try simp only [List.map_toArray, List.map_cons, List.map_nil]); first | done | rfl | (simp only [List.length_drop, List.length_take]; rfl)) ?_; (with_reducible refine (spec_l08Line.calls kj4 a0 ((rd_T75 l1 x7_1).f0) ((rd_T75 l1 x7_1).f1) ((rd_T75 l1 x7_1).f2) ((rd_T75 l1 x7_1).f3) ((rd_T75 l1 x7_1).f4) false _ A10.out).mono ?_); rintro e w15 ⟨rfl, hb⟩; refine ⟨_, rfl, ?_⟩; have n0_ := am (Kd.R_below (rst HO_6.out) hb); have n1_ := am (below_step (bst HB) hb); clear HO_6; clear HB; have HO_6 := n0_; have HB := n1_; clear n0_ n1_; (try clear hb); (try clear hb2); (try clear hk); (try clear hi)))
       go_ret2
       exact ⟨_, by first | rfl | (simp [errW_none, errW_some] <;> rfl) | (simp [*, errW_none, errW_some] <;> rfl), by (with_reducible repeat (first | apply Kd.R_alloc | apply Kd.R_drewN | apply Kd.R_drew)); exact HO_6.out, by repeat (first | (with_reducible first | exact HB.out | apply below_alloc | apply pw_below_drewN | apply below_drew1) | exact HB.out)⟩
     ·
      replace c7 := Bool.eq_false_iff.mpr c7
      subst c7
      have H1 : (spec_l08Pairs.l1 kj4 l1 x6_1 (([] : List Int)) (([] : List Int)) (([] : List (List Int))) 0) = some (r1, r2) := by rw [if_neg (show ¬ (false = true) by decide)] at H; exact H
      clear H
      have H := H1
      clear H1
      obtain ⟨y137, hy137⟩ : ∃ y_ : List Int, y_ = (([] : List Int)) := ⟨_, rfl⟩
      replace H : (spec_l08Pairs.l1 kj4 l1 x6_1 y137 (([] : List Int)) (([] : List (List Int))) 0) = some (r1, r2) := by first | (rw [hy137]; with_reducible exact H) | (have H2_ := bsm H; rw [hy137]; with_reducible exact H2_) | (have H2_ := bsm H; exact H2_) | (rw [hy137]; exact H) | exact H
      have Ny137 := am hy137; clear hy137
      obtain ⟨y140, hy140⟩ : ∃ y_ : List Int, y_ = (([] : List Int)) := ⟨_, rfl⟩
      replace H : (spec_l08Pairs.l1 kj4 l1 x6_1 y137 y140 (([] : List (List Int))) 0) = some (r1, r2) := by first | (rw [hy140]; with_reducible exact H) | (have H2_ := bsm H; rw [hy140]; with_reducible exact H2_) | (have H2_ := bsm H; exact H2_) | (rw [hy140]; exact H) | exact H
      have Ny140 := am hy140; clear hy140
      obtain ⟨y143, hy143⟩ : ∃ y_ : List (List Int), y_ = (([] : List (List Int))) := ⟨_, rfl⟩
      replace H : (spec_l08Pairs.l1 kj4 l1 x6_1 y137 y140 y143 0) = some (r1, r2) := by first | (rw [hy143]; with_reducible exact H) | (have H2_ := bsm H; rw [hy143]; with_reducible exact H2_) | (have H2_ := bsm H; exact H2_) | (rw [hy143]; exact H) | exact H
      have Ny143 := am hy143; clear hy143; have H' := am H; clear H
      go_wp2_with (first | ((with_reducible refine gate_dst (N := 40) rfl ?_); (try (refine gate_guard (by rfl) ?_; dsimp only)); refine Kd.R_lit (Kd.int .i64) _ 2 ?hg (N := 40) ?hd (xs := ([] : List Int)) (inner := []) (ok := fun _ => True) (okp := fun _ => True) ?hr ?hp (fun _ hk => hk) trivial (Below.refl _ _) (Nat.le_refl _) (by simp) ?_; (case hd => rfl); (case hg => rfl); (case hr => first | (go_simp; done) | (go_simp; rfl)); (case hp => exact (Reps.none _ _)); intro v138 w16 ho17 hb hg_ hnew_; clear hg_ hnew_; (first | rw [← Ny137.out] at ho17 | (simp only [Int.reduceToNat] at ho17; rw [← Ny137.out] at ho17)); have n0_ := am (Kd.R_elder' (rst HO_6.out) (Kd.R_base ho17) hb); have n1_ := am (Kd.R_lower (Kd.R_new' ho17 (Kd.R_lt (rst HO_6.out))) (below_size (bst HB))); have n2_ := am (below_step (bst HB) hb); clear HO_6; clear HB; have HO_6 := n0_; have HO139 := n1_; have HB := n2_; clear n0_ n1_ n2_; clear hb ho17) | ((with_reducible refine gate_dst (N := 41) rfl ?_); (try (refine gate_guard (by rfl) ?_; dsimp only)); refine Kd.R_lit (Kd.int .i64) _ 2 ?hg (N := 41) ?hd (xs := ([] : List Int)) (inner := []) (ok := fun _ => True) (okp := fun _ => True) ?hr ?hp (fun _ hk => hk) trivial (Below.refl _ _) (Nat.le_refl _) (by simp) ?_; (case hd => rfl); (case hg => rfl); (case hr => first | (go_simp; done) | (go_simp; rfl)); (case hp => exact (Reps.none _ _)); intro v141 w18 ho19 hb hg_ hnew_; clear hg_ hnew_; (first | rw [← Ny140.out] at ho19 | (simp only [Int.reduceToNat] at ho19; rw [← Ny140.out] at ho19)); have n0_ := am (Kd.R_elder' (rst HO_6.out) (Kd.R_base ho19) hb); have n1_ := am (Kd.R_elder' (rst HO139.out) (Kd.R_base ho19) hb); have n2_ := am (Kd.R_lower (Kd.R_new' (Kd.R_new' ho19 (Kd.R_lt (rst HO_6.out))) (Kd.R_lt (rst HO139.out))) (below_size (bst HB))); have n3_ := am (below_step (bst HB) hb); clear HO_6; clear HO139; clear HB; have HO_6 := n0_; have HO139 := n1_; have HO142 := n2_; have HB := n3_; clear n0_ n1_ n2_ n3_; clear hb ho19) | ((with_reducible refine gate_dst (N := 42) rfl ?_); (try (refine gate_guard (by rfl) ?_; dsimp only)); refine Kd.S_lit (Kd.slice 2 (Kd.int .i64)) _ 22 ?hg (N := 42) ?hd (xs := ([] : List (List Int))) (inner := []) (ok := fun _ => True) (okp := fun _ => True) ?hr ?hp (fun _ hk => hk) trivial (Below.refl _ _) (Nat.le_refl _) (by simp) ?_; (case hd => rfl); (case hg => rfl); (case hr => first | (go_simp; done) | (go_simp; rfl)); (case hp => exact (Reps.none _ _)); intro v144 w20 ho21 hb hg_ hnew_; clear hg_ hnew_; (first | rw [← Ny143.out] at ho21 | (simp only [Int.reduceToNat] at ho21; rw [← Ny143.out] at ho21)); have n0_ := am (Kd.R_below (rst HO_6.out) hb); have n1_ := am (Kd.R_below (rst HO139.out) hb); have n2_ := am (Kd.R_below (rst HO142.out) hb); have n3_ := am (Kd.S_lower (Kd.S_new' (Kd.S_new' (Kd.S_new' ho21 (Kd.R_lt (rst HO_6.out))) (Kd.R_lt (rst HO139.out))) (Kd.R_lt (rst HO142.out))) (below_size (bst HB))); have n4_ := am (below_step (bst HB) hb); clear HO_6; clear HO139; clear HO142; clear HB; have HO_6 := n0_; have HO139 := n1_; have HO142 := n2_; have HO145 := n3_; have HB := n4_; clear n0_ n1_ n2_ n3_ n4_; clear hb ho21))
      go_loopg [8, 9, 10, 11] kj4 (fun kq v8 v9 v10 v11 w' => ∃ (x6_3 : List Int) (x8_3 : List Int) (x9_3 : List Int) (x10_3 : List (List Int)) (x11_3 : Int), v11 = .int .i64 x11_3 ∧ Aside0 (spec_l08Pairs.l1 kq l1 x6_3 x8_3 x9_3 x10_3 x11_3 = some (r1, r2)) ∧ Aside0 (kq ≤ kj4) ∧ Aside0 (Kd.R (Kd.int .i64) 2 w' w.heap.size (fun k_ => some k_ ≠ (v8 : Value).ownBlock ∧ some k_ ≠ (v9 : Value).ownBlock) u6 x6_3) ∧ Aside0 (Kd.R (Kd.int .i64) 2 w' w.heap.size (fun k_ => some k_ ≠ (u6 : Value).ownBlock ∧ some k_ ≠ (v9 : Value).ownBlock) v8 x8_3) ∧ Aside0 (Kd.R (Kd.int .i64) 2 w' w.heap.size (fun k_ => some k_ ≠ (u6 : Value).ownBlock ∧ some k_ ≠ (v8 : Value).ownBlock) v9 x9_3) ∧ Aside0 (Kd.S (Kd.slice 2 (Kd.int .i64)) 22 w' w.heap.size (fun k_ => some k_ ≠ (u6 : Value).ownBlock ∧ some k_ ≠ (v8 : Value).ownBlock ∧ some k_ ≠ (v9 : Value).ownBlock) v10 x10_3) ∧ Aside0 (Below w.heap.size w w'))
      case atStart => exact ⟨(x6_1), (y137), (y140), (y143), (0), (by first | rfl | (simp; done) | (simp [*]; done)), H', ⟨Nat.le_refl _⟩, ⟨by first | exact rst (Kd.R_mono HO_6.out (fun _ hk => ⟨hk.1.2, hk.2⟩)) | exact Kd.R_mono (rst (Kd.R_mono HO_6.out (fun _ hk => ⟨hk.1.2, hk.2⟩))) (by intro k_ hk_; simpa only [ob_eq] using hk_)⟩, ⟨by first | exact rst (Kd.R_mono HO139.out (fun _ hk => ⟨hk.1.2, hk.2⟩)) | exact Kd.R_mono (rst (Kd.R_mono HO139.out (fun _ hk => ⟨hk.1.2, hk.2⟩))) (by intro k_ hk_; simpa only [ob_eq] using hk_)⟩, ⟨by first | exact rst (Kd.R_mono HO142.out (fun _ hk => ⟨hk.1.2, hk.2⟩)) | exact Kd.R_mono (rst (Kd.R_mono HO142.out (fun _ hk => ⟨hk.1.2, hk.2⟩))) (by intro k_ hk_; simpa only [ob_eq] using hk_)⟩, ⟨by (with_reducible repeat (first | apply Kd.S_alloc | apply Kd.S_drewN | apply Kd.S_drew)); exact Kd.S_mono HO145.out (fun _ hk => ⟨hk.1.1.2, ⟨hk.1.2, hk.2⟩⟩)⟩, ⟨bst HB⟩⟩
      case round =>
       clear H'; (try clear c1); (try clear p1); (try clear q1); (try clear hx1); (try clear p2); (try clear c6); (try clear c6b0); (try clear p6); (try clear c7); (try clear c8); (try clear c8b0); (try clear c9); (try clear c9b0); (try clear c10); (try clear c11); (try clear c12); (try clear p13); (try clear q13); (try clear hx13); (try clear hx132_0); (try clear hx132_1); (try clear hx132_2); (try clear hx132_3); (try clear hx132_4); (try clear p132); (try clear p2); (try clear q132)
       obtain ⟨x6_3, x8_3, x9_3, x10_3, x11_3, rfl, HA, HK3, HO_6, HO_8, HO_9, HO_10, HB⟩ := hrel
       cases gk with
       | zero => exact absurd HA.out (by simp [spec_l08Pairs.l1])
       | succ k3 =>
        have H := HA.out
        clear HA
        simp only [spec_l08Pairs.l1] at H
        by_cases c22 : x11_3 < (x6_3.length : Int)
        ·
         rw [if_pos c22] at H
         have c22b0 : decide (x11_3 < (x6_3.length : Int)) = true := decide_eq_true c22
         clear c22
         replace H := ifp H; obtain ⟨c23, H⟩ := H
         have c23b0 : decide (0 ≤ x11_3) = true := decide_eq_true c23
         clear c23
         replace H := ifp H; obtain ⟨c24, H⟩ := H
         have c24b0 : decide (x11_3 < (l1.length : Int)) = true := decide_eq_true c24
         clear c24
         have HC25 := am H
         clear H
         obtain ⟨Ao26, co26, eo26⟩ := Kd.R_slice HO_6.out
         subst eo26
         have p146 : 0 ≤ (x11_3 : Int) := od (by assumption)
         have q146 : x11_3 < (l1.length : Int) := od (by assumption)
         obtain ⟨ad146, e146, hx146_0, hx146_1, hx146_2, hx146_3, hx146_4⟩ := at_T75 HR1.out x11_3 p146 q146
         cases e146
         replace hx146_0 := bc HB hx146_0
         replace hx146_1 := bc HB hx146_1
         replace hx146_2 := bc HB hx146_2
         replace hx146_3 := bc HB hx146_3
         replace hx146_4 := bc HB hx146_4
         replace p146 := eq_true p146; replace q146 := eq_true q146
         obtain ⟨Ao27, co27, eo27⟩ := Kd.R_slice HO_8.out
         subst eo27
         go_upto_if 57 with (fail)
         go_cut [57] (fun v57 wc => ∃ (kq : Nat) (x57_24 : Bool), v57 = .bool x57_24 ∧ Aside0 (spec_l08Pairs.j3 kq l1 x6_3 x8_3 x9_3 x10_3 x11_3 (x8_3.length : Int) ((rd_T75 l1 x11_3).f0) x57_24 = some (r1, r2)) ∧ Aside0 (kq ≤ k3) ∧ Aside0 (Kd.R (Kd.int .i64) 2 wc w.heap.size (fun k_ => some k_ ≠ ((.slice Ao27 x8_3.length co27) : Value).ownBlock ∧ some k_ ≠ (u9 : Value).ownBlock) (.slice Ao26 x6_3.length co26) x6_3) ∧ Aside0 (Kd.R (Kd.int .i64) 2 wc w.heap.size (fun k_ => some k_ ≠ ((.slice Ao26 x6_3.length co26) : Value).ownBlock ∧ some k_ ≠ (u9 : Value).ownBlock) (.slice Ao27 x8_3.length co27) x8_3) ∧ Aside0 (Kd.R (Kd.int .i64) 2 wc w.heap.size (fun k_ => some k_ ≠ ((.slice Ao26 x6_3.length co26) : Value).ownBlock ∧ some k_ ≠ ((.slice Ao27 x8_3.length co27) : Value).ownBlock) u9 x9_3) ∧ Aside0 (Kd.S (Kd.slice 2 (Kd.int .i64)) 22 wc w.heap.size (fun k_ => some k_ ≠ ((.slice Ao26 x6_3.length co26) : Value).ownBlock ∧ some k_ ≠ ((.slice Ao27 x8_3.length co27) : Value).ownBlock ∧ some k_ ≠ (u9 : Value).ownBlock) u10 x10_3) ∧ Aside0 (Below w.heap.size w wc))
         case first =>
          have H := HC25.out
          clear HC25
          by_cases c28 : ((rd_T75 l1 x11_3).f0) = 2
          ·
           rw [if_pos c28] at H
           have c28b0 : (((rd_T75 l1 x11_3).f0) == 2) = true := beq_iff_eq.mpr c28
           have c28b1 : (((rd_T75 l1 x11_3).f0) != 2) = false := bne_eq_false_iff_eq.mpr c28
           clear c28
           (first | rw [c28b0] | (simp only [i64_w, i32_w]; rw [c28b0]) | skip)
           have H' := am H; clear H
           go_wp2
           go_meet
           case rel => exact ⟨_, ((((rd_T75 l1 x11_3).f0) == 2)), (by first | rfl | (simp; done) | (simp [*]; done)), H', ⟨by have := HK1.out; have := HJ4.out; have := HK3.out; first | omega | exact Nat.le_refl _⟩, ⟨by first | exact rst HO_6.out | exact Kd.R_mono (rst HO_6.out) (by intro k_ hk_; simpa only [ob_eq] using hk_)⟩, ⟨by first | exact rst HO_8.out | exact Kd.R_mono (rst HO_8.out) (by intro k_ hk_; simpa only [ob_eq] using hk_)⟩, ⟨by first | exact rst HO_9.out | exact Kd.R_mono (rst HO_9.out) (by intro k_ hk_; simpa only [ob_eq] using hk_)⟩, ⟨by (with_reducible repeat (first | apply Kd.S_alloc | apply Kd.S_drewN | apply Kd.S_drew)); exact HO_10.out⟩, ⟨bst HB⟩⟩
          ·
           rw [if_neg c28] at H
           have c28b0 : (((rd_T75 l1 x11_3).f0) == 2) = false := beq_eq_false_iff_ne.mpr c28
           have c28b1 : (((rd_T75 l1 x11_3).f0) != 2) = true := bne_iff_ne.mpr c28
           (first | rw [c28b0] | (simp only [i64_w, i32_w]; rw [c28b0]) | skip)
           have H' := am H; clear H
           go_wp2
           go_meet
           case rel => exact ⟨_, ((((rd_T75 l1 x11_3).f0) == 5)), (by first | rfl | (simp; done) | (simp [*]; done)), H', ⟨by have := HK1.out; have := HJ4.out; have := HK3.out; first | omega | exact Nat.le_refl _⟩, ⟨by first | exact rst HO_6.out | exact Kd.R_mono (rst HO_6.out) (by intro k_ hk_; simpa only [ob_eq] using hk_)⟩, ⟨by first | exact rst HO_8.out | exact Kd.R_mono (rst HO_8.out) (by intro k_ hk_; simpa only [ob_eq] using hk_)⟩, ⟨by first | exact rst HO_9.out | exact Kd.R_mono (rst HO_9.out) (by intro k_ hk_; simpa only [ob_eq] using hk_)⟩, ⟨by (with_reducible repeat (first | apply Kd.S_alloc | apply Kd.S_drewN | apply Kd.S_drew)); exact HO_10.out⟩, ⟨bst HB⟩⟩
         case rest =>
          clear HC25; (try clear c1); (try clear p1); (try clear q1); (try clear hx1); (try clear c2); (try clear p2); (try clear c6); (try clear c6b0); (try clear p6); (try clear c7); (try clear c8); (try clear c8b0); (try clear c9); (try clear c9b0); (try clear c10); (try clear c11); (try clear c12); (try clear p13); (try clear q13); (try clear hx13); (try clear p14); (try clear q14); (try clear hx14); (try clear c22); (try clear c22b0); (try clear c23); (try clear c23b0); (try clear c24); (try clear c24b0); (try clear c28); (try clear c28b0); (try clear c28b1); (try clear hx132_0); (try clear hx132_1); (try clear hx132_2); (try clear hx132_3); (try clear hx132_4); (try clear hx146_0); (try clear hx146_1); (try clear hx146_2); (try clear hx146_3); (try clear hx146_4); (try clear p1); (try clear p13); (try clear p132); (try clear p146); (try clear p2); (try clear p6); (try clear q1); (try clear q13)
          (try clear q132)
          (try clear q146)
          obtain ⟨kq, x57_24, rfl, HA, HJ24, HO_6, HO_8, HO_9, HO_10, HB⟩ := hcut
          cases kq with
          | zero => exact absurd HA.out (by simp [spec_l08Pairs.j3])
          | succ kj24 =>
           have H := HA.out
           clear HA
           simp only [spec_l08Pairs.j3] at H
           by_cases c29 : x57_24 = true
           ·
            subst c29
            have H1 : (if x8_3.length < 17592186044416 then ((some (x8_3 ++ [x11_3] : List Int)).bind fun y147 => (if x9_3.length < 17592186044416 then (if x10_3.length < 5864062014805 then (if (wrap64 ((x8_3.length : Int) + 1)) > 4 then (some (x6_3, false)) else ((spec_l08Rounds.f kj24 l1 y147).bind fun t159 => (if t159 > 64 then (some (x6_3, false)) else (spec_l08Pairs.l1 kj24 l1 x6_3 y147 (x9_3 ++ [x11_3]) (x10_3 ++ [(([] : List Int))]) (wrap64 (x11_3 + 1)))))) else (none)) else (none))) else (none)) = some (r1, r2) := by rw [if_pos rfl] at H; exact H
            clear H
            have H := H1
            clear H1
            replace H := ifp H; obtain ⟨c30, H⟩ := H
            have LMc30 := am c30
            clear c30
            obtain ⟨y147, hy147⟩ : ∃ y_ : List Int, y_ = (x8_3 ++ [x11_3]) := ⟨_, rfl⟩
            replace H : (if x9_3.length < 17592186044416 then (if x10_3.length < 5864062014805 then (if (wrap64 ((x8_3.length : Int) + 1)) > 4 then (some (x6_3, false)) else ((spec_l08Rounds.f kj24 l1 y147).bind fun t159 => (if t159 > 64 then (some (x6_3, false)) else (spec_l08Pairs.l1 kj24 l1 x6_3 y147 (x9_3 ++ [x11_3]) (x10_3 ++ [(([] : List Int))]) (wrap64 (x11_3 + 1)))))) else (none)) else (none)) = some (r1, r2) := by first | (rw [hy147]; with_reducible exact H) | (have H2_ := bsm H; rw [hy147]; with_reducible exact H2_) | (have H2_ := bsm H; exact H2_) | (rw [hy147]; exact H) | exact H
            have Ny147 := am hy147; clear hy147
            replace H := ifp H; obtain ⟨c31, H⟩ := H
            have LMc31 := am c31
            clear c31
            obtain ⟨y150, hy150⟩ : ∃ y_ : List Int, y_ = (x9_3 ++ [x11_3]) := ⟨_, rfl⟩
            replace H : (if x10_3.length < 5864062014805 then (if (wrap64 ((x8_3.length : Int) + 1)) > 4 then (some (x6_3, false)) else ((spec_l08Rounds.f kj24 l1 y147).bind fun t159 => (if t159 > 64 then (some (x6_3, false)) else (spec_l08Pairs.l1 kj24 l1 x6_3 y147 y150 (x10_3 ++ [(([] : List Int))]) (wrap64 (x11_3 + 1)))))) else (none)) = some (r1, r2) := by first | (rw [hy150]; with_reducible exact H) | (have H2_ := bsm H; rw [hy150]; with_reducible exact H2_) | (have H2_ := bsm H; exact H2_) | (rw [hy150]; exact H) | exact H
            have Ny150 := am hy150; clear hy150
            obtain ⟨y153, hy153⟩ : ∃ y_ : List Int, y_ = (([] : List Int)) := ⟨_, rfl⟩
            replace H : (if x10_3.length < 5864062014805 then (if (wrap64 ((x8_3.length : Int) + 1)) > 4 then (some (x6_3, false)) else ((spec_l08Rounds.f kj24 l1 y147).bind fun t159 => (if t159 > 64 then (some (x6_3, false)) else (spec_l08Pairs.l1 kj24 l1 x6_3 y147 y150 (x10_3 ++ [y153]) (wrap64 (x11_3 + 1)))))) else (none)) = some (r1, r2) := by first | (rw [hy153]; with_reducible exact H) | (have H2_ := bsm H; rw [hy153]; with_reducible exact H2_) | (have H2_ := bsm H; exact H2_) | (rw [hy153]; exact H) | exact H
            have Ny153 := am hy153; clear hy153
            replace H := ifp H; obtain ⟨c32, H⟩ := H
            have LMc32 := am c32
            clear c32
            obtain ⟨y156, hy156⟩ : ∃ y_ : List (List Int), y_ = (x10_3 ++ [y153]) := ⟨_, rfl⟩
            replace H : (if (wrap64 ((x8_3.length : Int) + 1)) > 4 then (some (x6_3, false)) else ((spec_l08Rounds.f kj24 l1 y147).bind fun t159 => (if t159 > 64 then (some (x6_3, false)) else (spec_l08Pairs.l1 kj24 l1 x6_3 y147 y150 y156 (wrap64 (x11_3 + 1)))))) = some (r1, r2) := by first | (rw [hy156]; with_reducible exact H) | (have H2_ := bsm H; rw [hy156]; with_reducible exact H2_) | (have H2_ := bsm H; exact H2_) | (rw [hy156]; exact H) | exact H
            have Ny156 := am hy156; clear hy156
            by_cases c33 : (wrap64 ((x8_3.length : Int) + 1)) > 4
            ·
             rw [if_pos c33] at H
             have c33b0 : decide (4 < (wrap64 ((x8_3.length : Int) + 1))) = true := decide_eq_true c33
             clear c33
             simp only [Option.some.injEq, Prod.mk.injEq] at H
             obtain ⟨rfl, rfl⟩ := H
             go_wp2_with (first | ((with_reducible refine gate_builtin (b := .append) (xs := #[.tmp 60, .tmp 62]) rfl ?_); (try (refine gate_guard (by rfl) ?_; dsimp only)); at_builtin; refine Kd.R_append (Kd.int .i64) (w0 := w) w.heap.size rfl (.tmp 60) (.tmp 62) 22 2 (.int .i64 0) 8 rfl Try.underlying22 info2 rfl (by decide) (by omega) (.slice Ao27 x8_3.length co27) x8_3 x11_3 [.int .i64 x11_3] (fun k_ => some k_ ≠ (.slice Ao26 x6_3.length co26 : Value).ownBlock ∧ some k_ ≠ (u9 : Value).ownBlock) (fun _ => False) rfl rfl ?aP (fun _ hk => hk.elim) ?aF ?aO ?aB ?aS ?aL ?_; (case aP => exact rfl); (case aB => exact (bst HB)); (case aF => exact (fun k_ hk => ⟨Kd.fresh' (Kd.R_lt (rst HO_6.out)) k_ hk, Kd.fresh' (Kd.R_lt (rst HO_9.out)) k_ hk⟩)); (case aO => exact (rst HO_8.out)); (case aS => exact (below_size (bst HB))); (case aL => have := LMc30.out; omega); intro v148 w34 ho hb hg hat; rw [← Ny147.out] at ho; have n0_ := am (Kd.R_after (ok := (fun k_ => some k_ ≠ (u9 : Value).ownBlock)) (rst (Kd.R_mono HO_6.out (fun _ hk => ⟨hk.2, hk.1⟩))) hg hat); have n1_ := am (Kd.R_after (ok := (fun k_ => some k_ ≠ (.slice Ao26 x6_3.length co26 : Value).ownBlock)) (rst HO_9.out) hg hat); have n2_ := am (Kd.S_after (ok := (fun k_ => some k_ ≠ (.slice Ao26 x6_3.length co26 : Value).ownBlock ∧ some k_ ≠ (u9 : Value).ownBlock)) (sst (Kd.S_mono HO_10.out (fun _ hk => ⟨⟨hk.1, hk.2.2⟩, hk.2.1⟩))) hg hat); have n3_ := am (hb); have n4_ := am (ho); clear HO_6; clear HO_9; clear HO_10; clear HB; clear HO_8; have HO_6 := n0_; have HO_9 := n1_; have HO_10 := n2_; have HB := n3_; have HO149 := n4_; clear n0_ n1_ n2_ n3_ n4_; clear ho hb hg hat) | ((with_reducible refine gate_builtin (b := .append) (xs := #[.tmp 64, .tmp 66]) rfl ?_); (try (refine gate_guard (by rfl) ?_; dsimp only)); at_builtin; refine Kd.R_append (Kd.int .i64) (w0 := w) w.heap.size rfl (.tmp 64) (.tmp 66) 22 2 (.int .i64 0) 8 rfl Try.underlying22 info2 rfl (by decide) (by omega) u9 x9_3 x11_3 [.int .i64 x11_3] (fun k_ => some k_ ≠ (.slice Ao26 x6_3.length co26 : Value).ownBlock ∧ some k_ ≠ (v148 : Value).ownBlock) (fun _ => False) rfl rfl ?aP (fun _ hk => hk.elim) ?aF ?aO ?aB ?aS ?aL ?_; (case aP => exact rfl); (case aB => exact (bst HB)); (case aF => exact (fun k_ hk => ⟨Kd.fresh' (Kd.R_lt (rst HO_6.out)) k_ hk, Kd.fresh' (Kd.R_lt (rst HO149.out)) k_ hk⟩)); (case aO => exact (rst HO_9.out)); (case aS => exact (below_size (bst HB))); (case aL => have := LMc31.out; omega); intro v151 w35 ho hb hg hat; rw [← Ny150.out] at ho; have n0_ := am (Kd.R_after (ok := (fun k_ => some k_ ≠ (v148 : Value).ownBlock)) (rst (Kd.R_mono HO_6.out (fun _ hk => ⟨hk.2, hk.1⟩))) hg hat); have n1_ := am (Kd.S_after (ok := (fun k_ => some k_ ≠ (.slice Ao26 x6_3.length co26 : Value).ownBlock ∧ some k_ ≠ (v148 : Value).ownBlock)) (sst (Kd.S_mono HO_10.out (fun _ hk => ⟨⟨hk.1.1, hk.2⟩, hk.1.2⟩))) hg hat); have n2_ := am (Kd.R_after (ok := (fun k_ => some k_ ≠ (.slice Ao26 x6_3.length co26 : Value).ownBlock)) (rst HO149.out) hg hat); have n3_ := am (hb); have n4_ := am (ho); clear HO_6; clear HO_10; clear HO149; clear HB; clear HO_9; have HO_6 := n0_; have HO_10 := n1_; have HO149 := n2_; have HB := n3_; have HO152 := n4_; clear n0_ n1_ n2_ n3_ n4_; clear ho hb hg hat) | ((with_reducible refine gate_dst (N := 69) rfl ?_); (try (refine gate_guard (by rfl) ?_; dsimp only)); refine Kd.R_lit (Kd.int .i64) _ 2 ?hg (N := 69) ?hd (xs := ([] : List Int)) (inner := []) (ok := fun _ => True) (okp := fun _ => True) ?hr ?hp (fun _ hk => hk) trivial (Below.refl _ _) (Nat.le_refl _) (by simp) ?_; (case hd => rfl); (case hg => rfl); (case hr => first | (go_simp; done) | (go_simp; rfl)); (case hp => exact (Reps.none _ _)); intro v154 w36 ho37 hb hg_ hnew_; clear hg_ hnew_; (first | rw [← Ny153.out] at ho37 | (simp only [Int.reduceToNat] at ho37; rw [← Ny153.out] at ho37)); have n0_ := am (Kd.R_elder' (rst HO_6.out) (Kd.R_base ho37) hb); have n1_ := am (Kd.S_elder' (sst HO_10.out) (Kd.R_base ho37) hb); have n2_ := am (Kd.R_elder' (rst HO149.out) (Kd.R_base ho37) hb); have n3_ := am (Kd.R_elder' (rst HO152.out) (Kd.R_base ho37) hb); have n4_ := am (Kd.R_lower (Kd.R_new' (Kd.R_new' (Kd.R_new' ho37 (Kd.R_lt (rst HO_6.out))) (Kd.R_lt (rst HO149.out))) (Kd.R_lt (rst HO152.out))) (below_size (bst HB))); have n5_ := am (below_step (bst HB) hb); clear HO_6; clear HO_10; clear HO149; clear HO152; clear HB; have HO_6 := n0_; have HO_10 := n1_; have HO149 := n2_; have HO152 := n3_; have HO155 := n4_; have HB := n5_; clear n0_ n1_ n2_ n3_ n4_ n5_; clear hb ho37; obtain ⟨Ao39, co39, eo39⟩ := Kd.R_slice HO155.out; subst eo39) | ((with_reducible refine gate_builtin (b := .append) (xs := #[.tmp 68, .tmp 70]) rfl ?_); (try (refine gate_guard (by rfl) ?_; dsimp only)); at_builtin; refine Kd.S_append (Kd.slice 2 (Kd.int .i64)) (w0 := w) w.heap.size rfl (.tmp 68) (.tmp 70) 50 22 (.slice none 0 0) 24 rfl Try.underlying50 info22 rfl (by decide) (by omega) u10 x10_3 y153 [.slice Ao39 y153.length co39] (fun k_ => some k_ ≠ (.slice Ao26 x6_3.length co26 : Value).ownBlock ∧ some k_ ≠ (v148 : Value).ownBlock ∧ some k_ ≠ (v151 : Value).ownBlock) (fun k_ => some k_ = (.slice Ao39 y153.length co39 : Value).ownBlock) rfl rfl ?aP (fun k_ hk_ => ((Kd.R_mono (ok' := fun k_ => ((fun k_ => some k_ ≠ (.slice Ao26 x6_3.length co26 : Value).ownBlock ∧ some k_ ≠ (v148 : Value).ownBlock ∧ some k_ ≠ (v151 : Value).ownBlock)) k_ ∧ some k_ ≠ (u10 : Value).ownBlock) (Kd.R_apart' (HO155.out) (Kd.S_typed HO_10.out) (by decide)) (fun k_ hk => ⟨⟨hk.1.1.1.2, ⟨hk.1.1.2, hk.1.2⟩⟩, hk.2⟩))).1 k_ hk_.symm) ?aF ?aO ?aB ?aS ?aL ?_; (case aP => exact Kd.M_row (Kd.R_mono (Kd.R_tight rfl (Kd.R_mono (ok' := fun k_ => ((fun k_ => some k_ ≠ (.slice Ao26 x6_3.length co26 : Value).ownBlock ∧ some k_ ≠ (v148 : Value).ownBlock ∧ some k_ ≠ (v151 : Value).ownBlock)) k_ ∧ some k_ ≠ (u10 : Value).ownBlock) (Kd.R_apart' (HO155.out) (Kd.S_typed HO_10.out) (by decide)) (fun k_ hk => ⟨⟨hk.1.1.1.2, ⟨hk.1.1.2, hk.1.2⟩⟩, hk.2⟩))) (fun _ h_ => h_))); (case aB => exact (bst HB)); (case aF => exact (fun k_ hk => ⟨Kd.fresh' (Kd.R_lt (rst HO_6.out)) k_ hk, Kd.fresh' (Kd.R_lt (rst HO149.out)) k_ hk, Kd.fresh' (Kd.R_lt (rst HO152.out)) k_ hk⟩)); (case aO => exact (by (with_reducible repeat (first | apply Kd.S_alloc | apply Kd.S_drewN | apply Kd.S_drew)); exact Kd.S_mono HO_10.out (fun k_ hk => ⟨⟨hk.1.1.1, ⟨hk.1.1.2, hk.1.2⟩⟩, fun e_ => hk.2 e_⟩))); (case aS => exact (below_size (bst HB))); (case aL => have := LMc32.out; omega); intro v157 w38 ho hb hg hat; rw [← Ny156.out] at ho; have n0_ := am (Kd.R_over' (rst HO_6.out) (Kd.S_typed (sst HO_10.out)) (by decide) hg); have n1_ := am (Kd.R_over' (rst HO149.out) (Kd.S_typed (sst HO_10.out)) (by decide) hg); have n2_ := am (Kd.R_over' (rst HO152.out) (Kd.S_typed (sst HO_10.out)) (by decide) hg); have n3_ := am (hb); have n4_ := am (ho); clear HO_6; clear HO149; clear HO152; clear HB; clear HO_10; clear HO155; have HO_6 := n0_; have HO149 := n1_; have HO152 := n2_; have HB := n3_; have HO158 := n4_; clear n0_ n1_ n2_ n3_ n4_; clear ho hb hg hat))
             go_ret2
             exact ⟨_, by first | rfl | (simp [errW_none, errW_some] <;> rfl) | (simp [*, errW_none, errW_some] <;> rfl), by (with_reducible repeat (first | apply Kd.R_alloc | apply Kd.R_drewN | apply Kd.R_drew)); exact Kd.R_mono HO_6.out (fun _ hk => trivial), by repeat (first | (with_reducible first | exact HB.out | apply below_alloc | apply pw_below_drewN | apply below_drew1) | exact HB.out)⟩
            ·
             rw [if_neg c33] at H
             have c33b0 : decide (4 < (wrap64 ((x8_3.length : Int) + 1))) = false := decide_eq_false c33
             clear c33
             replace H := Option.bind_eq_some_iff.mp H
             obtain ⟨t159, A400, H⟩ := H
             replace H : (if t159 > 64 then (some (x6_3, false)) else (spec_l08Pairs.l1 kj24 l1 x6_3 y147 y150 y156 (wrap64 (x11_3 + 1)))) = some (r1, r2) := H
             have A40 := am A400
             clear A400
             by_cases c41 : t159 > 64
             ·
              rw [if_pos c41] at H
              have c41b0 : decide (64 < t159) = true := decide_eq_true c41
              clear c41
              simp only [Option.some.injEq, Prod.mk.injEq] at H
              obtain ⟨rfl, rfl⟩ := H
              go_wp2_with (first | ((with_reducible refine gate_builtin (b := .append) (xs := #[.tmp 60, .tmp 62]) rfl ?_); (try (refine gate_guard (by rfl) ?_; dsimp only)); at_builtin; refine Kd.R_append (Kd.int .i64) (w0 := w) w.heap.size rfl (.tmp 60) (.tmp 62) 22 2 (.int .i64 0) 8 rfl Try.underlying22 info2 rfl (by decide) (by omega) (.slice Ao27 x8_3.length co27) x8_3 x11_3 [.int .i64 x11_3] (fun k_ => some k_ ≠ (.slice Ao26 x6_3.length co26 : Value).ownBlock ∧ some k_ ≠ (u9 : Value).ownBlock) (fun _ => False) rfl rfl ?aP (fun _ hk => hk.elim) ?aF ?aO ?aB ?aS ?aL ?_; (case aP => exact rfl); (case aB => exact (bst HB)); (case aF => exact (fun k_ hk => ⟨Kd.fresh' (Kd.R_lt (rst HO_6.out)) k_ hk, Kd.fresh' (Kd.R_lt (rst HO_9.out)) k_ hk⟩)); (case aO => exact (rst HO_8.out)); (case aS => exact (below_size (bst HB))); (case aL => have := LMc30.out; omega); intro v148 w42 ho hb hg hat; rw [← Ny147.out] at ho; have n0_ := am (Kd.R_after (ok := (fun k_ => some k_ ≠ (u9 : Value).ownBlock)) (rst (Kd.R_mono HO_6.out (fun _ hk => ⟨hk.2, hk.1⟩))) hg hat); have n1_ := am (Kd.R_after (ok := (fun k_ => some k_ ≠ (.slice Ao26 x6_3.length co26 : Value).ownBlock)) (rst HO_9.out) hg hat); have n2_ := am (Kd.S_after (ok := (fun k_ => some k_ ≠ (.slice Ao26 x6_3.length co26 : Value).ownBlock ∧ some k_ ≠ (u9 : Value).ownBlock)) (sst (Kd.S_mono HO_10.out (fun _ hk => ⟨⟨hk.1, hk.2.2⟩, hk.2.1⟩))) hg hat); have n3_ := am (hb); have n4_ := am (ho); clear HO_6; clear HO_9; clear HO_10; clear HB; clear HO_8; have HO_6 := n0_; have HO_9 := n1_; have HO_10 := n2_; have HB := n3_; have HO149 := n4_; clear n0_ n1_ n2_ n3_ n4_; clear ho hb hg hat) | ((with_reducible refine gate_builtin (b := .append) (xs := #[.tmp 64, .tmp 66]) rfl ?_); (try (refine gate_guard (by rfl) ?_; dsimp only)); at_builtin; refine Kd.R_append (Kd.int .i64) (w0 := w) w.heap.size rfl (.tmp 64) (.tmp 66) 22 2 (.int .i64 0) 8 rfl Try.underlying22 info2 rfl (by decide) (by omega) u9 x9_3 x11_3 [.int .i64 x11_3] (fun k_ => some k_ ≠ (.slice Ao26 x6_3.length co26 : Value).ownBlock ∧ some k_ ≠ (v148 : Value).ownBlock) (fun _ => False) rfl rfl ?aP (fun _ hk => hk.elim) ?aF ?aO ?aB ?aS ?aL ?_; (case aP => exact rfl); (case aB => exact (bst HB)); (case aF => exact (fun k_ hk => ⟨Kd.fresh' (Kd.R_lt (rst HO_6.out)) k_ hk, Kd.fresh' (Kd.R_lt (rst HO149.out)) k_ hk⟩)); (case aO => exact (rst HO_9.out)); (case aS => exact (below_size (bst HB))); (case aL => have := LMc31.out; omega); intro v151 w43 ho hb hg hat; rw [← Ny150.out] at ho; have n0_ := am (Kd.R_after (ok := (fun k_ => some k_ ≠ (v148 : Value).ownBlock)) (rst (Kd.R_mono HO_6.out (fun _ hk => ⟨hk.2, hk.1⟩))) hg hat); have n1_ := am (Kd.S_after (ok := (fun k_ => some k_ ≠ (.slice Ao26 x6_3.length co26 : Value).ownBlock ∧ some k_ ≠ (v148 : Value).ownBlock)) (sst (Kd.S_mono HO_10.out (fun _ hk => ⟨⟨hk.1.1, hk.2⟩, hk.1.2⟩))) hg hat); have n2_ := am (Kd.R_after (ok := (fun k_ => some k_ ≠ (.slice Ao26 x6_3.length co26 : Value).ownBlock)) (rst HO149.out) hg hat); have n3_ := am (hb); have n4_ := am (ho); clear HO_6; clear HO_10; clear HO149; clear HB; clear HO_9; have HO_6 := n0_; have HO_10 := n1_; have HO149 := n2_; have HB := n3_; have HO152 := n4_; clear n0_ n1_ n2_ n3_ n4_; clear ho hb hg hat) | ((with_reducible refine gate_dst (N := 69) rfl ?_); (try (refine gate_guard (by rfl) ?_; dsimp only)); refine Kd.R_lit (Kd.int .i64) _ 2 ?hg (N := 69) ?hd (xs := ([] : List Int)) (inner := []) (ok := fun _ => True) (okp := fun _ => True) ?hr ?hp (fun _ hk => hk) trivial (Below.refl _ _) (Nat.le_refl _) (by simp) ?_; (case hd => rfl); (case hg => rfl); (case hr => first | (go_simp; done) | (go_simp; rfl)); (case hp => exact (Reps.none _ _)); intro v154 w44 ho45 hb hg_ hnew_; clear hg_ hnew_; (first | rw [← Ny153.out] at ho45 | (simp only [Int.reduceToNat] at ho45; rw [← Ny153.out] at ho45)); have n0_ := am (Kd.R_elder' (rst HO_6.out) (Kd.R_base ho45) hb); have n1_ := am (Kd.S_elder' (sst HO_10.out) (Kd.R_base ho45) hb); have n2_ := am (Kd.R_elder' (rst HO149.out) (Kd.R_base ho45) hb); have n3_ := am (Kd.R_elder' (rst HO152.out) (Kd.R_base ho45) hb); have n4_ := am (Kd.R_lower (Kd.R_new' (Kd.R_new' (Kd.R_new' ho45 (Kd.R_lt (rst HO_6.out))) (Kd.R_lt (rst HO149.out))) (Kd.R_lt (rst HO152.out))) (below_size (bst HB))); have n5_ := am (below_step (bst HB) hb); clear HO_6; clear HO_10; clear HO149; clear HO152; clear HB; have HO_6 := n0_; have HO_10 := n1_; have HO149 := n2_; have HO152 := n3_; have HO155 := n4_; have HB := n5_; clear n0_ n1_ n2_ n3_ n4_ n5_; clear hb ho45; obtain ⟨Ao47, co47, eo47⟩ := Kd.R_slice HO155.out; subst eo47) | ((with_reducible refine gate_builtin (b := .append) (xs := #[.tmp 68, .tmp 70]) rfl ?_); (try (refine gate_guard (by rfl) ?_; dsimp only)); at_builtin; refine Kd.S_append (Kd.slice 2 (Kd.int .i64)) (w0 := w) w.heap.size rfl (.tmp 68) (.tmp 70) 50 22 (.slice none 0 0) 24 rfl Try.underlying50 info22 rfl (by decide) (by omega) u10 x10_3 y153 [.slice Ao47 y153.length co47] (fun k_ => some k_ ≠ (.slice Ao26 x6_3.length co26 : Value).ownBlock ∧ some k_ ≠ (v148 : Value).ownBlock ∧ some k_ ≠ (v151 : Value).ownBlock) (fun k_ => some k_ = (.slice Ao47 y153.length co47 : Value).ownBlock) rfl rfl ?aP (fun k_ hk_ => ((Kd.R_mono (ok' := fun k_ => ((fun k_ => some k_ ≠ (.slice Ao26 x6_3.length co26 : Value).ownBlock ∧ some k_ ≠ (v148 : Value).ownBlock ∧ some k_ ≠ (v151 : Value).ownBlock)) k_ ∧ some k_ ≠ (u10 : Value).ownBlock) (Kd.R_apart' (HO155.out) (Kd.S_typed HO_10.out) (by decide)) (fun k_ hk => ⟨⟨hk.1.1.1.2, ⟨hk.1.1.2, hk.1.2⟩⟩, hk.2⟩))).1 k_ hk_.symm) ?aF ?aO ?aB ?aS ?aL ?_; (case aP => exact Kd.M_row (Kd.R_mono (Kd.R_tight rfl (Kd.R_mono (ok' := fun k_ => ((fun k_ => some k_ ≠ (.slice Ao26 x6_3.length co26 : Value).ownBlock ∧ some k_ ≠ (v148 : Value).ownBlock ∧ some k_ ≠ (v151 : Value).ownBlock)) k_ ∧ some k_ ≠ (u10 : Value).ownBlock) (Kd.R_apart' (HO155.out) (Kd.S_typed HO_10.out) (by decide)) (fun k_ hk => ⟨⟨hk.1.1.1.2, ⟨hk.1.1.2, hk.1.2⟩⟩, hk.2⟩))) (fun _ h_ => h_))); (case aB => exact (bst HB)); (case aF => exact (fun k_ hk => ⟨Kd.fresh' (Kd.R_lt (rst HO_6.out)) k_ hk, Kd.fresh' (Kd.R_lt (rst HO149.out)) k_ hk, Kd.fresh' (Kd.R_lt (rst HO152.out)) k_ hk⟩)); (case aO => exact (by (with_reducible repeat (first | apply Kd.S_alloc | apply Kd.S_drewN | apply Kd.S_drew)); exact Kd.S_mono HO_10.out (fun k_ hk => ⟨⟨hk.1.1.1, ⟨hk.1.1.2, hk.1.2⟩⟩, fun e_ => hk.2 e_⟩))); (case aS => exact (below_size (bst HB))); (case aL => have := LMc32.out; omega); intro v157 w46 ho hb hg hat; rw [← Ny156.out] at ho; have n0_ := am (Kd.R_over' (rst HO_6.out) (Kd.S_typed (sst HO_10.out)) (by decide) hg); have n1_ := am (Kd.R_over' (rst HO149.out) (Kd.S_typed (sst HO_10.out)) (by decide) hg); have n2_ := am (Kd.R_over' (rst HO152.out) (Kd.S_typed (sst HO_10.out)) (by decide) hg); have n3_ := am (hb); have n4_ := am (ho); clear HO_6; clear HO149; clear HO152; clear HB; clear HO_10; clear HO155; have HO_6 := n0_; have HO149 := n1_; have HO152 := n2_; have HB := n3_; have HO158 := n4_; clear n0_ n1_ n2_ n3_ n4_; clear ho hb hg hat; obtain ⟨Ao48, co48, eo48⟩ := Kd.R_slice HO149.out; subst eo48) | (go_at_call 129; (with_reducible refine (spec_l08Rounds.calls kj24 _ _ l1 _ _ y147 t159 _ ?side1 ?side2 ?side3 ?side4 A40.out).mono ?_); (case side1 => repeat (first | exact (Kd.C_below HR1.out HB.out) | (with_reducible refine Kd.C_alloc ?_ _) | (with_reducible refine Kd.C_drewN ?_ _) | (with_reducible refine Kd.C_drew ?_))); (case side2 => exact HC1.out); (case side3 => repeat (first | exact (Kd.R_reads' HO149.out).2.2 | (with_reducible refine Kd.C_alloc ?_ _) | (with_reducible refine Kd.C_drewN ?_ _) | (with_reducible refine Kd.C_drew ?_))); (case side4 => exact (Kd.R_reads' HO149.out).2.1); rintro e w' ⟨rfl, ⟨nd, rfl⟩⟩))
              go_ret2
              exact ⟨_, by first | rfl | (simp [errW_none, errW_some] <;> rfl) | (simp [*, errW_none, errW_some] <;> rfl), by (with_reducible repeat (first | apply Kd.R_alloc | apply Kd.R_drewN | apply Kd.R_drew)); exact Kd.R_mono HO_6.out (fun _ hk => trivial), by repeat (first | (with_reducible first | exact HB.out | apply below_alloc | apply pw_below_drewN | apply below_drew1) | exact HB.out)⟩
             ·
              rw [if_neg c41] at H
              have c41b0 : decide (64 < t159) = false := decide_eq_false c41
              clear c41; have H' := am H; clear H
              go_wp2_with (first | ((with_reducible refine gate_builtin (b := .append) (xs := #[.tmp 60, .tmp 62]) rfl ?_); (try (refine gate_guard (by rfl) ?_; dsimp only)); at_builtin; refine Kd.R_append (Kd.int .i64) (w0 := w) w.heap.size rfl (.tmp 60) (.tmp 62) 22 2 (.int .i64 0) 8 rfl Try.underlying22 info2 rfl (by decide) (by omega) (.slice Ao27 x8_3.length co27) x8_3 x11_3 [.int .i64 x11_3] (fun k_ => some k_ ≠ (.slice Ao26 x6_3.length co26 : Value).ownBlock ∧ some k_ ≠ (u9 : Value).ownBlock) (fun _ => False) rfl rfl ?aP (fun _ hk => hk.elim) ?aF ?aO ?aB ?aS ?aL ?_; (case aP => exact rfl); (case aB => exact (bst HB)); (case aF => exact (fun k_ hk => ⟨Kd.fresh' (Kd.R_lt (rst HO_6.out)) k_ hk, Kd.fresh' (Kd.R_lt (rst HO_9.out)) k_ hk⟩)); (case aO => exact (rst HO_8.out)); (case aS => exact (below_size (bst HB))); (case aL => have := LMc30.out; omega); intro v148 w49 ho hb hg hat; rw [← Ny147.out] at ho; have n0_ := am (Kd.R_after (ok := (fun k_ => some k_ ≠ (u9 : Value).ownBlock)) (rst (Kd.R_mono HO_6.out (fun _ hk => ⟨hk.2, hk.1⟩))) hg hat); have n1_ := am (Kd.R_after (ok := (fun k_ => some k_ ≠ (.slice Ao26 x6_3.length co26 : Value).ownBlock)) (rst HO_9.out) hg hat); have n2_ := am (Kd.S_after (ok := (fun k_ => some k_ ≠ (.slice Ao26 x6_3.length co26 : Value).ownBlock ∧ some k_ ≠ (u9 : Value).ownBlock)) (sst (Kd.S_mono HO_10.out (fun _ hk => ⟨⟨hk.1, hk.2.2⟩, hk.2.1⟩))) hg hat); have n3_ := am (hb); have n4_ := am (ho); clear HO_6; clear HO_9; clear HO_10; clear HB; clear HO_8; have HO_6 := n0_; have HO_9 := n1_; have HO_10 := n2_; have HB := n3_; have HO149 := n4_; clear n0_ n1_ n2_ n3_ n4_; clear ho hb hg hat) | ((with_reducible refine gate_builtin (b := .append) (xs := #[.tmp 64, .tmp 66]) rfl ?_); (try (refine gate_guard (by rfl) ?_; dsimp only)); at_builtin; refine Kd.R_append (Kd.int .i64) (w0 := w) w.heap.size rfl (.tmp 64) (.tmp 66) 22 2 (.int .i64 0) 8 rfl Try.underlying22 info2 rfl (by decide) (by omega) u9 x9_3 x11_3 [.int .i64 x11_3] (fun k_ => some k_ ≠ (.slice Ao26 x6_3.length co26 : Value).ownBlock ∧ some k_ ≠ (v148 : Value).ownBlock) (fun _ => False) rfl rfl ?aP (fun _ hk => hk.elim) ?aF ?aO ?aB ?aS ?aL ?_; (case aP => exact rfl); (case aB => exact (bst HB)); (case aF => exact (fun k_ hk => ⟨Kd.fresh' (Kd.R_lt (rst HO_6.out)) k_ hk, Kd.fresh' (Kd.R_lt (rst HO149.out)) k_ hk⟩)); (case aO => exact (rst HO_9.out)); (case aS => exact (below_size (bst HB))); (case aL => have := LMc31.out; omega); intro v151 w50 ho hb hg hat; rw [← Ny150.out] at ho; have n0_ := am (Kd.R_after (ok := (fun k_ => some k_ ≠ (v148 : Value).ownBlock)) (rst (Kd.R_mono HO_6.out (fun _ hk => ⟨hk.2, hk.1⟩))) hg hat); have n1_ := am (Kd.S_after (ok := (fun k_ => some k_ ≠ (.slice Ao26 x6_3.length co26 : Value).ownBlock ∧ some k_ ≠ (v148 : Value).ownBlock)) (sst (Kd.S_mono HO_10.out (fun _ hk => ⟨⟨hk.1.1, hk.2⟩, hk.1.2⟩))) hg hat); have n2_ := am (Kd.R_after (ok := (fun k_ => some k_ ≠ (.slice Ao26 x6_3.length co26 : Value).ownBlock)) (rst HO149.out) hg hat); have n3_ := am (hb); have n4_ := am (ho); clear HO_6; clear HO_10; clear HO149; clear HB; clear HO_9; have HO_6 := n0_; have HO_10 := n1_; have HO149 := n2_; have HB := n3_; have HO152 := n4_; clear n0_ n1_ n2_ n3_ n4_; clear ho hb hg hat) | ((with_reducible refine gate_dst (N := 69) rfl ?_); (try (refine gate_guard (by rfl) ?_; dsimp only)); refine Kd.R_lit (Kd.int .i64) _ 2 ?hg (N := 69) ?hd (xs := ([] : List Int)) (inner := []) (ok := fun _ => True) (okp := fun _ => True) ?hr ?hp (fun _ hk => hk) trivial (Below.refl _ _) (Nat.le_refl _) (by simp) ?_; (case hd => rfl); (case hg => rfl); (case hr => first | (go_simp; done) | (go_simp; rfl)); (case hp => exact (Reps.none _ _)); intro v154 w51 ho52 hb hg_ hnew_; clear hg_ hnew_; (first | rw [← Ny153.out] at ho52 | (simp only [Int.reduceToNat] at ho52; rw [← Ny153.out] at ho52)); have n0_ := am (Kd.R_elder' (rst HO_6.out) (Kd.R_base ho52) hb); have n1_ := am (Kd.S_elder' (sst HO_10.out) (Kd.R_base ho52) hb); have n2_ := am (Kd.R_elder' (rst HO149.out) (Kd.R_base ho52) hb); have n3_ := am (Kd.R_elder' (rst HO152.out) (Kd.R_base ho52) hb); have n4_ := am (Kd.R_lower (Kd.R_new' (Kd.R_new' (Kd.R_new' ho52 (Kd.R_lt (rst HO_6.out))) (Kd.R_lt (rst HO149.out))) (Kd.R_lt (rst HO152.out))) (below_size (bst HB))); have n5_ := am (below_step (bst HB) hb); clear HO_6; clear HO_10; clear HO149; clear HO152; clear HB; have HO_6 := n0_; have HO_10 := n1_; have HO149 := n2_; have HO152 := n3_; have HO155 := n4_; have HB := n5_; clear n0_ n1_ n2_ n3_ n4_ n5_; clear hb ho52; obtain ⟨Ao54, co54, eo54⟩ := Kd.R_slice HO155.out; subst eo54) | ((with_reducible refine gate_builtin (b := .append) (xs := #[.tmp 68, .tmp 70]) rfl ?_); (try (refine gate_guard (by rfl) ?_; dsimp only)); at_builtin; refine Kd.S_append (Kd.slice 2 (Kd.int .i64)) (w0 := w) w.heap.size rfl (.tmp 68) (.tmp 70) 50 22 (.slice none 0 0) 24 rfl Try.underlying50 info22 rfl (by decide) (by omega) u10 x10_3 y153 [.slice Ao54 y153.length co54] (fun k_ => some k_ ≠ (.slice Ao26 x6_3.length co26 : Value).ownBlock ∧ some k_ ≠ (v148 : Value).ownBlock ∧ some k_ ≠ (v151 : Value).ownBlock) (fun k_ => some k_ = (.slice Ao54 y153.length co54 : Value).ownBlock) rfl rfl ?aP (fun k_ hk_ => ((Kd.R_mono (ok' := fun k_ => ((fun k_ => some k_ ≠ (.slice Ao26 x6_3.length co26 : Value).ownBlock ∧ some k_ ≠ (v148 : Value).ownBlock ∧ some k_ ≠ (v151 : Value).ownBlock)) k_ ∧ some k_ ≠ (u10 : Value).ownBlock) (Kd.R_apart' (HO155.out) (Kd.S_typed HO_10.out) (by decide)) (fun k_ hk => ⟨⟨hk.1.1.1.2, ⟨hk.1.1.2, hk.1.2⟩⟩, hk.2⟩))).1 k_ hk_.symm) ?aF ?aO ?aB ?aS ?aL ?_; (case aP => exact Kd.M_row (Kd.R_mono (Kd.R_tight rfl (Kd.R_mono (ok' := fun k_ => ((fun k_ => some k_ ≠ (.slice Ao26 x6_3.length co26 : Value).ownBlock ∧ some k_ ≠ (v148 : Value).ownBlock ∧ some k_ ≠ (v151 : Value).ownBlock)) k_ ∧ some k_ ≠ (u10 : Value).ownBlock) (Kd.R_apart' (HO155.out) (Kd.S_typed HO_10.out) (by decide)) (fun k_ hk => ⟨⟨hk.1.1.1.2, ⟨hk.1.1.2, hk.1.2⟩⟩, hk.2⟩))) (fun _ h_ => h_))); (case aB => exact (bst HB)); (case aF => exact (fun k_ hk => ⟨Kd.fresh' (Kd.R_lt (rst HO_6.out)) k_ hk, Kd.fresh' (Kd.R_lt (rst HO149.out)) k_ hk, Kd.fresh' (Kd.R_lt (rst HO152.out)) k_ hk⟩)); (case aO => exact (by (with_reducible repeat (first | apply Kd.S_alloc | apply Kd.S_drewN | apply Kd.S_drew)); exact Kd.S_mono HO_10.out (fun k_ hk => ⟨⟨hk.1.1.1, ⟨hk.1.1.2, hk.1.2⟩⟩, fun e_ => hk.2 e_⟩))); (case aS => exact (below_size (bst HB))); (case aL => have := LMc32.out; omega); intro v157 w53 ho hb hg hat; rw [← Ny156.out] at ho; have n0_ := am (Kd.R_over' (rst HO_6.out) (Kd.S_typed (sst HO_10.out)) (by decide) hg); have n1_ := am (Kd.R_over' (rst HO149.out) (Kd.S_typed (sst HO_10.out)) (by decide) hg); have n2_ := am (Kd.R_over' (rst HO152.out) (Kd.S_typed (sst HO_10.out)) (by decide) hg); have n3_ := am (hb); have n4_ := am (ho); clear HO_6; clear HO149; clear HO152; clear HB; clear HO_10; clear HO155; have HO_6 := n0_; have HO149 := n1_; have HO152 := n2_; have HB := n3_; have HO158 := n4_; clear n0_ n1_ n2_ n3_ n4_; clear ho hb hg hat; obtain ⟨Ao55, co55, eo55⟩ := Kd.R_slice HO149.out; subst eo55) | (go_at_call 129; (with_reducible refine (spec_l08Rounds.calls kj24 _ _ l1 _ _ y147 t159 _ ?side1 ?side2 ?side3 ?side4 A40.out).mono ?_); (case side1 => repeat (first | exact (Kd.C_below HR1.out HB.out) | (with_reducible refine Kd.C_alloc ?_ _) | (with_reducible refine Kd.C_drewN ?_ _) | (with_reducible refine Kd.C_drew ?_))); (case side2 => exact HC1.out); (case side3 => repeat (first | exact (Kd.R_reads' HO149.out).2.2 | (with_reducible refine Kd.C_alloc ?_ _) | (with_reducible refine Kd.C_drewN ?_ _) | (with_reducible refine Kd.C_drew ?_))); (case side4 => exact (Kd.R_reads' HO149.out).2.1); rintro e w' ⟨rfl, ⟨nd, rfl⟩⟩))
              go_roundg kj24
              case measure => have := HK1.out; have := HJ4.out; have := HK3.out; have := HJ24.out; omega
              case rel => exact ⟨(x6_3), (y147), (y150), (y156), (wrap64 (x11_3 + 1)), (by first | rfl | (simp; done) | (simp [*]; done)), H', ⟨by have := HK1.out; have := HJ4.out; have := HK3.out; have := HJ24.out; omega⟩, ⟨by first | exact rst (Kd.R_mono HO_6.out (fun _ hk => ⟨hk.1.1, hk.1.2⟩)) | exact Kd.R_mono (rst (Kd.R_mono HO_6.out (fun _ hk => ⟨hk.1.1, hk.1.2⟩))) (by intro k_ hk_; simpa only [ob_eq] using hk_)⟩, ⟨by first | exact rst (Kd.R_mono HO149.out (fun _ hk => ⟨hk.1.1, hk.1.2⟩)) | exact Kd.R_mono (rst (Kd.R_mono HO149.out (fun _ hk => ⟨hk.1.1, hk.1.2⟩))) (by intro k_ hk_; simpa only [ob_eq] using hk_)⟩, ⟨by first | exact rst (Kd.R_mono HO152.out (fun _ hk => ⟨hk.1.1, hk.1.2⟩)) | exact Kd.R_mono (rst (Kd.R_mono HO152.out (fun _ hk => ⟨hk.1.1, hk.1.2⟩))) (by intro k_ hk_; simpa only [ob_eq] using hk_)⟩, ⟨by (with_reducible repeat (first | apply Kd.S_alloc | apply Kd.S_drewN | apply Kd.S_drew)); exact HO158.out⟩, ⟨bst HB⟩⟩
           ·
            replace c29 := Bool.eq_false_iff.mpr c29
            subst c29
            have H1 : (if ((rd_T75 l1 x11_3).f0) = 3 then (if (x8_3.length : Int) = 0 then (some (x6_3, false)) else (if 0 ≤ (wrap64 ((x8_3.length : Int) - 1)) then (if (wrap64 ((x8_3.length : Int) - 1)) < (x9_3.length : Int) then (if 0 ≤ (rd x9_3 (wrap64 ((x8_3.length : Int) - 1))) then (if (rd x9_3 (wrap64 ((x8_3.length : Int) - 1))) < (l1.length : Int) then (if ((rd_T75 l1 (rd x9_3 (wrap64 ((x8_3.length : Int) - 1)))).f0) = 2 then (if (rd x9_3 (wrap64 ((x8_3.length : Int) - 1))) < (x6_3.length : Int) then (spec_l08Pairs.l1 kj24 l1 (x6_3.set ((rd x9_3 (wrap64 ((x8_3.length : Int) - 1))) : Int).toNat x11_3) x8_3 (x9_3.set ((wrap64 ((x8_3.length : Int) - 1)) : Int).toNat x11_3) x10_3 (wrap64 (x11_3 + 1))) else (none)) else (some (x6_3, false))) else (none)) else (none)) else (none)) else (none))) else (if ((rd_T75 l1 x11_3).f0) = 4 then (if (x8_3.length : Int) = 0 then (some (x6_3, false)) else (if 0 ≤ (wrap64 ((x8_3.length : Int) - 1)) then (if (wrap64 ((x8_3.length : Int) - 1)) < (x9_3.length : Int) then (if 0 ≤ (rd x9_3 (wrap64 ((x8_3.length : Int) - 1))) then (if (rd x9_3 (wrap64 ((x8_3.length : Int) - 1))) < (x6_3.length : Int) then (if (wrap64 ((x8_3.length : Int) - 1)) < (x8_3.length : Int) then (if 0 ≤ x11_3 then (if x11_3 < (x6_3.length : Int) then (spec_l08Pairs.l2 kj24 l1 ((x6_3.set ((rd x9_3 (wrap64 ((x8_3.length : Int) - 1))) : Int).toNat x11_3).set (x11_3 : Int).toNat (rd x8_3 (wrap64 ((x8_3.length : Int) - 1)))) x8_3 x9_3 x10_3 x11_3 (x8_3.length : Int) 0) else (none)) else (none)) else (none)) else (none)) else (none)) else (none)) else (none))) else (if ((rd_T75 l1 x11_3).f0) = 6 then (spec_l08Pairs.l3 kj24 l1 x6_3 x8_3 x9_3 x10_3 x11_3 (wrap64 ((x8_3.length : Int) - 1))) else (spec_l08Pairs.l1 kj24 l1 x6_3 x8_3 x9_3 x10_3 (wrap64 (x11_3 + 1)))))) = some (r1, r2) := by rw [if_neg (show ¬ (false = true) by decide)] at H; exact H
            clear H
            have H := H1
            clear H1
            by_cases c56 : ((rd_T75 l1 x11_3).f0) = 3
            ·
             rw [if_pos c56] at H
             have c56b0 : (((rd_T75 l1 x11_3).f0) == 3) = true := beq_iff_eq.mpr c56
             have c56b1 : (((rd_T75 l1 x11_3).f0) != 3) = false := bne_eq_false_iff_eq.mpr c56
             clear c56
             by_cases c57 : (x8_3.length : Int) = 0
             ·
              rw [if_pos c57] at H
              have c57b0 : ((x8_3.length : Int) == 0) = true := beq_iff_eq.mpr c57
              have c57b1 : ((x8_3.length : Int) != 0) = false := bne_eq_false_iff_eq.mpr c57
              clear c57
              simp only [Option.some.injEq, Prod.mk.injEq] at H
              obtain ⟨rfl, rfl⟩ := H
              go_wp2
              go_ret2
              exact ⟨_, by first | rfl | (simp [errW_none, errW_some] <;> rfl) | (simp [*, errW_none, errW_some] <;> rfl), by (with_reducible repeat (first | apply Kd.R_alloc | apply Kd.R_drewN | apply Kd.R_drew)); exact Kd.R_mono HO_6.out (fun _ hk => trivial), by repeat (first | (with_reducible first | exact HB.out | apply below_alloc | apply pw_below_drewN | apply below_drew1) | exact HB.out)⟩
             ·
              rw [if_neg c57] at H
              have c57b0 : ((x8_3.length : Int) == 0) = false := beq_eq_false_iff_ne.mpr c57
              have c57b1 : ((x8_3.length : Int) != 0) = true := bne_iff_ne.mpr c57
              have c57b2 : ¬ (x8_3 = []) := fun h_ => c57 (by rw [h_]; rfl)
              obtain ⟨ji58, hji58⟩ : ∃ j_ : Int, (wrap64 ((x8_3.length : Int) - 1)) = j_ := ⟨_, rfl⟩
              replace H : (if 0 ≤ (ji58) then (if (ji58) < (x9_3.length : Int) then (if 0 ≤ (rd x9_3 (ji58)) then (if (rd x9_3 (ji58)) < (l1.length : Int) then (if ((rd_T75 l1 (rd x9_3 (ji58))).f0) = 2 then (if (rd x9_3 (ji58)) < (x6_3.length : Int) then (spec_l08Pairs.l1 kj24 l1 (x6_3.set ((rd x9_3 (ji58)) : Int).toNat x11_3) x8_3 (x9_3.set ((ji58) : Int).toNat x11_3) x10_3 (wrap64 (x11_3 + 1))) else (none)) else (some (x6_3, false))) else (none)) else (none)) else (none)) else (none)) = some (r1, r2) := by first | (rw [hji58] at H; exact H) | (simp only [hji58] at H ⊢; exact H)
              have hji58w : (IntKind.i64.wrap ((x8_3.length : Int) - 1)) = ji58 := (i64_w _).trans hji58
              replace H := ifp H; obtain ⟨c59, H⟩ := H
              have c59b0 : decide (0 ≤ (ji58)) = true := decide_eq_true c59
              clear c59
              replace H := ifp H; obtain ⟨c60, H⟩ := H
              have c60b0 : decide ((ji58) < (x9_3.length : Int)) = true := decide_eq_true c60
              clear c60
              replace H := ifp H; obtain ⟨c61, H⟩ := H
              have c61b0 : decide (0 ≤ (rd x9_3 (ji58))) = true := decide_eq_true c61
              clear c61
              replace H := ifp H; obtain ⟨c62, H⟩ := H
              have c62b0 : decide ((rd x9_3 (ji58)) < (l1.length : Int)) = true := decide_eq_true c62
              clear c62
              by_cases c63 : ((rd_T75 l1 (rd x9_3 (ji58))).f0) = 2
              ·
               rw [if_pos c63] at H
               have c63b0 : (((rd_T75 l1 (rd x9_3 (ji58))).f0) == 2) = true := beq_iff_eq.mpr c63
               have c63b1 : (((rd_T75 l1 (rd x9_3 (ji58))).f0) != 2) = false := bne_eq_false_iff_eq.mpr c63
               clear c63
               replace H := ifp H; obtain ⟨c64, H⟩ := H
               have c64b0 : decide ((rd x9_3 (ji58)) < (x6_3.length : Int)) = true := decide_eq_true c64
               clear c64
               obtain ⟨y163, hy163⟩ : ∃ y_ : List Int, y_ = (x6_3.set ((rd x9_3 (ji58)) : Int).toNat x11_3) := ⟨_, rfl⟩
               replace H : (spec_l08Pairs.l1 kj24 l1 y163 x8_3 (x9_3.set ((ji58) : Int).toNat x11_3) x10_3 (wrap64 (x11_3 + 1))) = some (r1, r2) := by first | (rw [hy163]; with_reducible exact H) | (have H2_ := bsm H; rw [hy163]; with_reducible exact H2_) | (have H2_ := bsm H; exact H2_) | (rw [hy163]; exact H) | exact H
               have Ny163 := am hy163; clear hy163
               obtain ⟨y164, hy164⟩ : ∃ y_ : List Int, y_ = (x9_3.set ((ji58) : Int).toNat x11_3) := ⟨_, rfl⟩
               replace H : (spec_l08Pairs.l1 kj24 l1 y163 x8_3 y164 x10_3 (wrap64 (x11_3 + 1))) = some (r1, r2) := by first | (rw [hy164]; with_reducible exact H) | (have H2_ := bsm H; rw [hy164]; with_reducible exact H2_) | (have H2_ := bsm H; exact H2_) | (rw [hy164]; exact H) | exact H
               have Ny164 := am hy164; clear hy164; have H' := am H; clear H
               obtain ⟨Ao67, co67, eo67⟩ := Kd.R_slice HO_9.out
               subst eo67
               have p160 : 0 ≤ ((ji58) : Int) := od (by assumption)
               have q160 : (ji58) < (x9_3.length : Int) := od (by assumption)
               obtain ⟨ad160, e160, hx160_0⟩ := Kd.at_int (Kd.R_reads' HO_9.out).2.2 (ji58) p160 q160
               cases e160
               replace p160 := eq_true p160; replace q160 := eq_true q160
               have p161 : 0 ≤ ((rd x9_3 (ji58)) : Int) := od (by assumption)
               have q161 : (rd x9_3 (ji58)) < (l1.length : Int) := od (by assumption)
               obtain ⟨ad161, e161, hx161_0, hx161_1, hx161_2, hx161_3, hx161_4⟩ := at_T75 HR1.out (rd x9_3 (ji58)) p161 q161
               obtain rfl : ad146 = ad161 := (by injection e161)
               replace hx161_0 := bc HB hx161_0
               replace hx161_1 := bc HB hx161_1
               replace hx161_2 := bc HB hx161_2
               replace hx161_3 := bc HB hx161_3
               replace hx161_4 := bc HB hx161_4
               replace p161 := eq_true p161; replace q161 := eq_true q161
               have p162 : 0 ≤ ((ji58) : Int) := od (by assumption)
               have q162 : (ji58) < (x9_3.length : Int) := od (by assumption)
               obtain ⟨ad162, e162, hx162_0⟩ := Kd.at_int (Kd.R_reads' HO_9.out).2.2 (ji58) p162 q162
               obtain rfl : ad160 = ad162 := (by injection e162)
               replace p162 := eq_true p162; replace q162 := eq_true q162
               have p65 : 0 ≤ ((rd x9_3 (ji58)) : Int) := od (by assumption)
               have q65 : ((rd x9_3 (ji58)) : Int) < ((x6_3.length : Int) : Int) := od (by assumption)
               obtain ⟨go65, co65, eo65, gb65, gl65, cl65, HG65⟩ := Kd.R_form HO_6.out (by omega)
               (first | cases eo65 | (injection eo65 with ea_ en_ ec_; (first | subst ea_ | (injection ea_ with ea_; subst ea_)); subst ec_; clear en_))
               have GB65 := am gb65
               have GG65 := am HG65
               clear gb65 gl65 HG65
               obtain ⟨hx65_0, hf65_0⟩ := Kd.R_celln 0 HO_6.out ((rd x9_3 (ji58)) : Int) p65 q65
               replace p65 := eq_true p65; replace q65 := eq_true q65
               have HP68 := Kd.R_putg HO_6.out ((rd x9_3 (ji58)) : Int) x11_3
               go_wp2_with (first | ((with_reducible refine gate_store (t := 2) (p := 106) rfl ?_); refine store_event (t := 2) (p := 106) (v := ?vo_w69) (w1 := (wc.setCell ⟨go65, ((rd x9_3 (ji58)) : Int).toNat, none⟩ (.int .i64 x11_3))) ?hg ?ho ?hn ?hr ?_; (case ho => rfl); (case hg => rfl); (case hn => rfl); (case hr => first | (go_simp; done) | (go_simp; rfl)); intro w69 hw; have hg : wc.grownBy w69 (some go65) := (by rw [hw]; exact HP68.2); have hp_ : Kd.R (Kd.int .i64) 2 w69 w.heap.size (fun k_ => some k_ ≠ (.slice Ao27 x8_3.length co27 : Value).ownBlock ∧ some k_ ≠ (.slice (some ad160) x9_3.length co67 : Value).ownBlock) (.slice (some ⟨go65, 0, none⟩) x6_3.length co26) y163 := (by rw [hw, Ny163.out]; exact HP68.1); clear HP68; have n0_ := am (hp_); have n1_ := am (Kd.R_after (v := (.slice (some ⟨go65, 0, none⟩) x6_3.length co26)) (v1 := (.slice (some ⟨go65, 0, none⟩) x6_3.length co26)) (ok := (fun k_ => some k_ ≠ (.slice (some ad160) x9_3.length co67 : Value).ownBlock)) (rst (Kd.R_mono HO_8.out (fun _ hk => ⟨hk.2, hk.1⟩))) hg (.inl rfl)); have n2_ := am (Kd.R_after (v := (.slice (some ⟨go65, 0, none⟩) x6_3.length co26)) (v1 := (.slice (some ⟨go65, 0, none⟩) x6_3.length co26)) (ok := (fun k_ => some k_ ≠ (.slice Ao27 x8_3.length co27 : Value).ownBlock)) (rst (Kd.R_mono HO_9.out (fun _ hk => ⟨hk.2, hk.1⟩))) hg (.inl rfl)); have n3_ := am (Kd.S_after (v := (.slice (some ⟨go65, 0, none⟩) x6_3.length co26)) (v1 := (.slice (some ⟨go65, 0, none⟩) x6_3.length co26)) (ok := (fun k_ => some k_ ≠ (.slice Ao27 x8_3.length co27 : Value).ownBlock ∧ some k_ ≠ (.slice (some ad160) x9_3.length co67 : Value).ownBlock)) (sst (Kd.S_mono HO_10.out (fun _ hk => ⟨⟨hk.2.1, hk.2.2⟩, hk.1⟩))) hg (.inl rfl)); have n4_ := am ((by rw [hw]; exact below_set (HB.out) GB65.out : Below w.heap.size w w69)); clear HO_6; clear HO_8; clear HO_9; clear HO_10; clear HB; have HO_6 := n0_; have HO_8 := n1_; have HO_9 := n2_; have HO_10 := n3_; have HB := n4_; clear n0_ n1_ n2_ n3_ n4_; clear hg hw hp_; have p66 : 0 ≤ ((ji58) : Int) := od (by assumption); have q66 : ((ji58) : Int) < ((x9_3.length : Int) : Int) := od (by assumption); obtain ⟨go66, co66, eo66, gb66, gl66, cl66, HG66⟩ := Kd.R_form HO_9.out (by omega); (first | cases eo66 | (injection eo66 with ea_ en_ ec_; (first | subst ea_ | (injection ea_ with ea_; subst ea_)); subst ec_; clear en_)); have GB66 := am gb66; have GG66 := am HG66; clear gb66 gl66 HG66; (first | simp only [add_plain] at hx160_0 | skip); (first | simp only [add_plain] at hx162_0 | skip); obtain ⟨hx66_0, hf66_0⟩ := Kd.R_celln 0 HO_9.out ((ji58) : Int) p66 q66; replace p66 := eq_true p66; replace q66 := eq_true q66; obtain ⟨hy70_, hz70_⟩ := Kd.R_celln 0 HO_9.out ((ji58) : Int) (od (by assumption)) (od (by assumption)); have HP70 := Kd.R_putg HO_9.out ((ji58) : Int) x11_3) | ((with_reducible refine gate_store (t := 2) (p := 111) rfl ?_); refine store_event (t := 2) (p := 111) (v := ?vo_w71) (w1 := (w69.setCell ⟨go66, ((ji58) : Int).toNat, none⟩ (.int .i64 x11_3))) ?hg ?ho ?hn ?hr ?_; (case ho => rfl); (case hg => rfl); (case hn => rfl); (case hr => first | (go_simp; done) | (go_simp; rfl)); intro w71 hw; have hg : w69.grownBy w71 (some go66) := (by rw [hw]; exact HP70.2); have hp_ : Kd.R (Kd.int .i64) 2 w71 w.heap.size (fun k_ => some k_ ≠ (.slice Ao27 x8_3.length co27 : Value).ownBlock ∧ some k_ ≠ (.slice (some ⟨go65, 0, none⟩) x6_3.length co26 : Value).ownBlock) (.slice (some ⟨go66, 0, none⟩) x9_3.length co67) y164 := (by rw [hw, Ny164.out]; exact HP70.1); clear HP70; have n0_ := am (Kd.R_after (v := (.slice (some ⟨go66, 0, none⟩) x9_3.length co67)) (v1 := (.slice (some ⟨go66, 0, none⟩) x9_3.length co67)) (ok := (fun k_ => some k_ ≠ (.slice Ao27 x8_3.length co27 : Value).ownBlock)) (rst HO_6.out) hg (.inl rfl)); have n1_ := am (Kd.R_after (v := (.slice (some ⟨go66, 0, none⟩) x9_3.length co67)) (v1 := (.slice (some ⟨go66, 0, none⟩) x9_3.length co67)) (ok := (fun k_ => some k_ ≠ (.slice (some ⟨go65, 0, none⟩) x6_3.length co26 : Value).ownBlock)) (rst (Kd.R_mono HO_8.out (fun _ hk => ⟨hk.2, hk.1⟩))) hg (.inl rfl)); have n2_ := am (hp_); have n3_ := am (Kd.S_after (v := (.slice (some ⟨go66, 0, none⟩) x9_3.length co67)) (v1 := (.slice (some ⟨go66, 0, none⟩) x9_3.length co67)) (ok := (fun k_ => some k_ ≠ (.slice (some ⟨go65, 0, none⟩) x6_3.length co26 : Value).ownBlock ∧ some k_ ≠ (.slice Ao27 x8_3.length co27 : Value).ownBlock)) (sst (Kd.S_mono HO_10.out (fun _ hk => ⟨⟨hk.2, hk.1.1⟩, hk.1.2⟩))) hg (.inl rfl)); have n4_ := am ((by rw [hw]; exact below_set (HB.out) GB66.out : Below w.heap.size w w71)); clear HO_6; clear HO_8; clear HO_9; clear HO_10; clear HB; have HO_6 := n0_; have HO_8 := n1_; have HO_9 := n2_; have HO_10 := n3_; have HB := n4_; clear n0_ n1_ n2_ n3_ n4_; clear hg hw hp_))
               go_roundg kj24
               case measure => have := HK1.out; have := HJ4.out; have := HK3.out; have := HJ24.out; omega
               case rel => exact ⟨(y163), (x8_3), (y164), (x10_3), (wrap64 (x11_3 + 1)), (by first | rfl | (simp; done) | (simp [*]; done)), H', ⟨by have := HK1.out; have := HJ4.out; have := HK3.out; have := HJ24.out; omega⟩, ⟨by first | exact rst HO_6.out | exact Kd.R_mono (rst HO_6.out) (by intro k_ hk_; simpa only [ob_eq] using hk_)⟩, ⟨by first | exact rst HO_8.out | exact Kd.R_mono (rst HO_8.out) (by intro k_ hk_; simpa only [ob_eq] using hk_)⟩, ⟨by first | exact rst (Kd.R_mono HO_9.out (fun _ hk => ⟨hk.2, hk.1⟩)) | exact Kd.R_mono (rst (Kd.R_mono HO_9.out (fun _ hk => ⟨hk.2, hk.1⟩))) (by intro k_ hk_; simpa only [ob_eq] using hk_)⟩, ⟨by (with_reducible repeat (first | apply Kd.S_alloc | apply Kd.S_drewN | apply Kd.S_drew)); exact Kd.S_mono HO_10.out (fun _ hk => ⟨hk.1.1, ⟨hk.1.2, hk.2⟩⟩)⟩, ⟨bst HB⟩⟩
              ·
               rw [if_neg c63] at H
               have c63b0 : (((rd_T75 l1 (rd x9_3 (ji58))).f0) == 2) = false := beq_eq_false_iff_ne.mpr c63
               have c63b1 : (((rd_T75 l1 (rd x9_3 (ji58))).f0) != 2) = true := bne_iff_ne.mpr c63
               simp only [Option.some.injEq, Prod.mk.injEq] at H
               obtain ⟨rfl, rfl⟩ := H
               obtain ⟨Ao72, co72, eo72⟩ := Kd.R_slice HO_9.out
               subst eo72
               have p160 : 0 ≤ ((ji58) : Int) := od (by assumption)
               have q160 : (ji58) < (x9_3.length : Int) := od (by assumption)
               obtain ⟨ad160, e160, hx160_0⟩ := Kd.at_int (Kd.R_reads' HO_9.out).2.2 (ji58) p160 q160
               cases e160
               replace p160 := eq_true p160; replace q160 := eq_true q160
               have p161 : 0 ≤ ((rd x9_3 (ji58)) : Int) := od (by assumption)
               have q161 : (rd x9_3 (ji58)) < (l1.length : Int) := od (by assumption)
               obtain ⟨ad161, e161, hx161_0, hx161_1, hx161_2, hx161_3, hx161_4⟩ := at_T75 HR1.out (rd x9_3 (ji58)) p161 q161
               obtain rfl : ad146 = ad161 := (by injection e161)
               replace hx161_0 := bc HB hx161_0
               replace hx161_1 := bc HB hx161_1
               replace hx161_2 := bc HB hx161_2
               replace hx161_3 := bc HB hx161_3
               replace hx161_4 := bc HB hx161_4
               replace p161 := eq_true p161; replace q161 := eq_true q161
               go_wp2
               go_ret2
               exact ⟨_, by first | rfl | (simp [errW_none, errW_some] <;> rfl) | (simp only [← hji58]; first | rfl | (simp [errW_none, errW_some] <;> rfl)) | (simp [*, errW_none, errW_some] <;> rfl), by (with_reducible repeat (first | apply Kd.R_alloc | apply Kd.R_drewN | apply Kd.R_drew)); exact Kd.R_mono HO_6.out (fun _ hk => trivial), by repeat (first | (with_reducible first | exact HB.out | apply below_alloc | apply pw_below_drewN | apply below_drew1) | exact HB.out)⟩
            ·
             rw [if_neg c56] at H
             have c56b0 : (((rd_T75 l1 x11_3).f0) == 3) = false := beq_eq_false_iff_ne.mpr c56
             have c56b1 : (((rd_T75 l1 x11_3).f0) != 3) = true := bne_iff_ne.mpr c56
             by_cases c73 : ((rd_T75 l1 x11_3).f0) = 4
             ·
              rw [if_pos c73] at H
              have c73b0 : (((rd_T75 l1 x11_3).f0) == 4) = true := beq_iff_eq.mpr c73
              have c73b1 : (((rd_T75 l1 x11_3).f0) != 4) = false := bne_eq_false_iff_eq.mpr c73
              clear c73
              by_cases c74 : (x8_3.length : Int) = 0
              ·
               rw [if_pos c74] at H
               have c74b0 : ((x8_3.length : Int) == 0) = true := beq_iff_eq.mpr c74
               have c74b1 : ((x8_3.length : Int) != 0) = false := bne_eq_false_iff_eq.mpr c74
               clear c74
               simp only [Option.some.injEq, Prod.mk.injEq] at H
               obtain ⟨rfl, rfl⟩ := H
               go_wp2
               go_ret2
               exact ⟨_, by first | rfl | (simp [errW_none, errW_some] <;> rfl) | (simp [*, errW_none, errW_some] <;> rfl), by (with_reducible repeat (first | apply Kd.R_alloc | apply Kd.R_drewN | apply Kd.R_drew)); exact Kd.R_mono HO_6.out (fun _ hk => trivial), by repeat (first | (with_reducible first | exact HB.out | apply below_alloc | apply pw_below_drewN | apply below_drew1) | exact HB.out)⟩
              ·
               rw [if_neg c74] at H
               have c74b0 : ((x8_3.length : Int) == 0) = false := beq_eq_false_iff_ne.mpr c74
               have c74b1 : ((x8_3.length : Int) != 0) = true := bne_iff_ne.mpr c74
               have c74b2 : ¬ (x8_3 = []) := fun h_ => c74 (by rw [h_]; rfl)
               obtain ⟨ji75, hji75⟩ : ∃ j_ : Int, (wrap64 ((x8_3.length : Int) - 1)) = j_ := ⟨_, rfl⟩
               replace H : (if 0 ≤ (ji75) then (if (ji75) < (x9_3.length : Int) then (if 0 ≤ (rd x9_3 (ji75)) then (if (rd x9_3 (ji75)) < (x6_3.length : Int) then (if (ji75) < (x8_3.length : Int) then (if 0 ≤ x11_3 then (if x11_3 < (x6_3.length : Int) then (spec_l08Pairs.l2 kj24 l1 ((x6_3.set ((rd x9_3 (ji75)) : Int).toNat x11_3).set (x11_3 : Int).toNat (rd x8_3 (ji75))) x8_3 x9_3 x10_3 x11_3 (x8_3.length : Int) 0) else (none)) else (none)) else (none)) else (none)) else (none)) else (none)) else (none)) = some (r1, r2) := by first | (rw [hji75] at H; exact H) | (simp only [hji75] at H ⊢; exact H)
               have hji75w : (IntKind.i64.wrap ((x8_3.length : Int) - 1)) = ji75 := (i64_w _).trans hji75
               replace H := ifp H; obtain ⟨c76, H⟩ := H
               have c76b0 : decide (0 ≤ (ji75)) = true := decide_eq_true c76
               clear c76
               replace H := ifp H; obtain ⟨c77, H⟩ := H
               have c77b0 : decide ((ji75) < (x9_3.length : Int)) = true := decide_eq_true c77
               clear c77
               replace H := ifp H; obtain ⟨c78, H⟩ := H
               have c78b0 : decide (0 ≤ (rd x9_3 (ji75))) = true := decide_eq_true c78
               clear c78
               replace H := ifp H; obtain ⟨c79, H⟩ := H
               have c79b0 : decide ((rd x9_3 (ji75)) < (x6_3.length : Int)) = true := decide_eq_true c79
               clear c79
               obtain ⟨y166, hy166⟩ : ∃ y_ : List Int, y_ = (x6_3.set ((rd x9_3 (ji75)) : Int).toNat x11_3) := ⟨_, rfl⟩
               replace H : (if (ji75) < (x8_3.length : Int) then (if 0 ≤ x11_3 then (if x11_3 < (x6_3.length : Int) then (spec_l08Pairs.l2 kj24 l1 (y166.set (x11_3 : Int).toNat (rd x8_3 (ji75))) x8_3 x9_3 x10_3 x11_3 (x8_3.length : Int) 0) else (none)) else (none)) else (none)) = some (r1, r2) := by first | (rw [hy166]; with_reducible exact H) | (have H2_ := bsm H; rw [hy166]; with_reducible exact H2_) | (have H2_ := bsm H; exact H2_) | (rw [hy166]; exact H) | exact H
               have Ny166 := am hy166; clear hy166
               replace H := ifp H; obtain ⟨c81, H⟩ := H
               have c81b0 : decide ((ji75) < (x8_3.length : Int)) = true := decide_eq_true c81
               clear c81
               replace H := ifp H; obtain ⟨c82, H⟩ := H
               have c82b0 : decide (0 ≤ x11_3) = true := decide_eq_true c82
               clear c82
               replace H := ifp H; obtain ⟨c83, H⟩ := H
               have c83b0 : decide (x11_3 < (x6_3.length : Int)) = true := decide_eq_true c83
               clear c83
               obtain ⟨y168, hy168⟩ : ∃ y_ : List Int, y_ = (y166.set (x11_3 : Int).toNat (rd x8_3 (ji75))) := ⟨_, rfl⟩
               replace H : (spec_l08Pairs.l2 kj24 l1 y168 x8_3 x9_3 x10_3 x11_3 (x8_3.length : Int) 0) = some (r1, r2) := by first | (rw [hy168]; with_reducible exact H) | (have H2_ := bsm H; rw [hy168]; with_reducible exact H2_) | (have H2_ := bsm H; exact H2_) | (rw [hy168]; exact H) | exact H
               have Ny168 := am hy168; clear hy168; have H' := am H; clear H
               obtain ⟨Ao85, co85, eo85⟩ := Kd.R_slice HO_9.out
               subst eo85
               have p165 : 0 ≤ ((ji75) : Int) := od (by assumption)
               have q165 : (ji75) < (x9_3.length : Int) := od (by assumption)
               obtain ⟨ad165, e165, hx165_0⟩ := Kd.at_int (Kd.R_reads' HO_9.out).2.2 (ji75) p165 q165
               cases e165
               replace p165 := eq_true p165; replace q165 := eq_true q165
               have p80 : 0 ≤ ((rd x9_3 (ji75)) : Int) := od (by assumption)
               have q80 : ((rd x9_3 (ji75)) : Int) < ((x6_3.length : Int) : Int) := od (by assumption)
               obtain ⟨go80, co80, eo80, gb80, gl80, cl80, HG80⟩ := Kd.R_form HO_6.out (by omega)
               (first | cases eo80 | (injection eo80 with ea_ en_ ec_; (first | subst ea_ | (injection ea_ with ea_; subst ea_)); subst ec_; clear en_))
               have GB80 := am gb80
               have GG80 := am HG80
               clear gb80 gl80 HG80
               obtain ⟨hx80_0, hf80_0⟩ := Kd.R_celln 0 HO_6.out ((rd x9_3 (ji75)) : Int) p80 q80
               replace p80 := eq_true p80; replace q80 := eq_true q80
               have HP86 := Kd.R_putg HO_6.out ((rd x9_3 (ji75)) : Int) x11_3
               go_wp2_with (first | ((with_reducible refine gate_store (t := 2) (p := 124) rfl ?_); refine store_event (t := 2) (p := 124) (v := ?vo_w87) (w1 := (wc.setCell ⟨go80, ((rd x9_3 (ji75)) : Int).toNat, none⟩ (.int .i64 x11_3))) ?hg ?ho ?hn ?hr ?_; (case ho => rfl); (case hg => rfl); (case hn => rfl); (case hr => first | (go_simp; done) | (go_simp; rfl)); intro w87 hw; have hg : wc.grownBy w87 (some go80) := (by rw [hw]; exact HP86.2); have hp_ : Kd.R (Kd.int .i64) 2 w87 w.heap.size (fun k_ => some k_ ≠ (.slice Ao27 x8_3.length co27 : Value).ownBlock ∧ some k_ ≠ (.slice (some ad165) x9_3.length co85 : Value).ownBlock) (.slice (some ⟨go80, 0, none⟩) x6_3.length co26) y166 := (by rw [hw, Ny166.out]; exact HP86.1); clear HP86; have n0_ := am (hp_); have n1_ := am (Kd.R_after (v := (.slice (some ⟨go80, 0, none⟩) x6_3.length co26)) (v1 := (.slice (some ⟨go80, 0, none⟩) x6_3.length co26)) (ok := (fun k_ => some k_ ≠ (.slice (some ad165) x9_3.length co85 : Value).ownBlock)) (rst (Kd.R_mono HO_8.out (fun _ hk => ⟨hk.2, hk.1⟩))) hg (.inl rfl)); have n2_ := am (Kd.R_after (v := (.slice (some ⟨go80, 0, none⟩) x6_3.length co26)) (v1 := (.slice (some ⟨go80, 0, none⟩) x6_3.length co26)) (ok := (fun k_ => some k_ ≠ (.slice Ao27 x8_3.length co27 : Value).ownBlock)) (rst (Kd.R_mono HO_9.out (fun _ hk => ⟨hk.2, hk.1⟩))) hg (.inl rfl)); have n3_ := am (Kd.S_after (v := (.slice (some ⟨go80, 0, none⟩) x6_3.length co26)) (v1 := (.slice (some ⟨go80, 0, none⟩) x6_3.length co26)) (ok := (fun k_ => some k_ ≠ (.slice Ao27 x8_3.length co27 : Value).ownBlock ∧ some k_ ≠ (.slice (some ad165) x9_3.length co85 : Value).ownBlock)) (sst (Kd.S_mono HO_10.out (fun _ hk => ⟨⟨hk.2.1, hk.2.2⟩, hk.1⟩))) hg (.inl rfl)); have n4_ := am ((by rw [hw]; exact below_set (HB.out) GB80.out : Below w.heap.size w w87)); clear HO_6; clear HO_8; clear HO_9; clear HO_10; clear HB; have HO_6 := n0_; have HO_8 := n1_; have HO_9 := n2_; have HO_10 := n3_; have HB := n4_; clear n0_ n1_ n2_ n3_ n4_; clear hg hw hp_; have p167 : 0 ≤ ((ji75) : Int) := od (by assumption); have q167 : (ji75) < (x8_3.length : Int) := od (by assumption); obtain ⟨ad167, e167, hx167_0⟩ := Kd.at_int (Kd.R_reads' HO_8.out).2.2 (ji75) p167 q167; cases e167; replace p167 := eq_true p167; replace q167 := eq_true q167; have p84 : 0 ≤ (x11_3 : Int) := od (by assumption); have q84 : (x11_3 : Int) < ((x6_3.length : Int) : Int) := od (by assumption); obtain ⟨hx84_0, hf84_0⟩ := Kd.R_celln 0 HO_6.out (x11_3 : Int) p84 q84; replace p84 := eq_true p84; replace q84 := eq_true q84; obtain ⟨hy88_, hz88_⟩ := Kd.R_celln 0 HO_6.out (x11_3 : Int) (od (by assumption)) (od (by assumption)); have HP88 := Kd.R_putg HO_6.out (x11_3 : Int) (rd x8_3 (ji75))) | ((with_reducible refine gate_store (t := 2) (p := 132) rfl ?_); refine store_event (t := 2) (p := 132) (v := ?vo_w89) (w1 := (w87.setCell ⟨go80, (x11_3 : Int).toNat, none⟩ (.int .i64 (rd x8_3 (ji75))))) ?hg ?ho ?hn ?hr ?_; (case ho => rfl); (case hg => rfl); (case hn => rfl); (case hr => first | (go_simp; done) | (go_simp; rfl)); intro w89 hw; have hg : w87.grownBy w89 (some go80) := (by rw [hw]; exact HP88.2); have hp_ : Kd.R (Kd.int .i64) 2 w89 w.heap.size (fun k_ => some k_ ≠ (.slice (some ad167) x8_3.length co27 : Value).ownBlock ∧ some k_ ≠ (.slice (some ad165) x9_3.length co85 : Value).ownBlock) (.slice (some ⟨go80, 0, none⟩) x6_3.length co26) y168 := (by rw [hw, Ny168.out]; exact HP88.1); clear HP88; have n0_ := am (hp_); have n1_ := am (Kd.R_after (v := (.slice (some ⟨go80, 0, none⟩) x6_3.length co26)) (v1 := (.slice (some ⟨go80, 0, none⟩) x6_3.length co26)) (ok := (fun k_ => some k_ ≠ (.slice (some ad165) x9_3.length co85 : Value).ownBlock)) (rst HO_8.out) hg (.inl rfl)); have n2_ := am (Kd.R_after (v := (.slice (some ⟨go80, 0, none⟩) x6_3.length co26)) (v1 := (.slice (some ⟨go80, 0, none⟩) x6_3.length co26)) (ok := (fun k_ => some k_ ≠ (.slice (some ad167) x8_3.length co27 : Value).ownBlock)) (rst HO_9.out) hg (.inl rfl)); have n3_ := am (Kd.S_after (v := (.slice (some ⟨go80, 0, none⟩) x6_3.length co26)) (v1 := (.slice (some ⟨go80, 0, none⟩) x6_3.length co26)) (ok := (fun k_ => some k_ ≠ (.slice (some ad167) x8_3.length co27 : Value).ownBlock ∧ some k_ ≠ (.slice (some ad165) x9_3.length co85 : Value).ownBlock)) (sst HO_10.out) hg (.inl rfl)); have n4_ := am ((by rw [hw]; exact below_set (HB.out) GB80.out : Below w.heap.size w w89)); clear HO_6; clear HO_8; clear HO_9; clear HO_10; clear HB; have HO_6 := n0_; have HO_8 := n1_; have HO_9 := n2_; have HO_10 := n3_; have HB := n4_; clear n0_ n1_ n2_ n3_ n4_; clear hg hw hp_))
               go_loopg [14] kj24 (fun kq v14 w' => ∃ (x6_5 : List Int) (x14_5 : Int), v14 = .int .i64 x14_5 ∧ Aside0 (spec_l08Pairs.l2 kq l1 x6_5 x8_3 x9_3 x10_3 x11_3 (x8_3.length : Int) x14_5 = some (r1, r2)) ∧ Aside0 (kq ≤ kj24) ∧ Aside0 (Kd.R (Kd.int .i64) 2 w' w.heap.size (fun k_ => some k_ ≠ ((.slice (some ad167) x8_3.length co27) : Value).ownBlock ∧ some k_ ≠ ((.slice (some ad165) x9_3.length co85) : Value).ownBlock) (.slice (some ⟨go80, 0, none⟩) x6_3.length co26) x6_5) ∧ Aside0 (Kd.R (Kd.int .i64) 2 w' w.heap.size (fun k_ => some k_ ≠ ((.slice (some ⟨go80, 0, none⟩) x6_3.length co26) : Value).ownBlock ∧ some k_ ≠ ((.slice (some ad165) x9_3.length co85) : Value).ownBlock) (.slice (some ad167) x8_3.length co27) x8_3) ∧ Aside0 (Kd.R (Kd.int .i64) 2 w' w.heap.size (fun k_ => some k_ ≠ ((.slice (some ⟨go80, 0, none⟩) x6_3.length co26) : Value).ownBlock ∧ some k_ ≠ ((.slice (some ad167) x8_3.length co27) : Value).ownBlock) (.slice (some ad165) x9_3.length co85) x9_3) ∧ Aside0 (Kd.S (Kd.slice 2 (Kd.int .i64)) 22 w' w.heap.size (fun k_ => some k_ ≠ ((.slice (some ⟨go80, 0, none⟩) x6_3.length co26) : Value).ownBlock ∧ some k_ ≠ ((.slice (some ad167) x8_3.length co27) : Value).ownBlock ∧ some k_ ≠ ((.slice (some ad165) x9_3.length co85) : Value).ownBlock) u10 x10_3) ∧ Aside0 (Below w.heap.size w w'))
               case atStart => exact ⟨(y168), (0), (by first | rfl | (simp; done) | (simp [*]; done)), H', ⟨Nat.le_refl _⟩, ⟨by first | exact rst HO_6.out | exact Kd.R_mono (rst HO_6.out) (by intro k_ hk_; simpa only [ob_eq] using hk_)⟩, ⟨by first | exact rst (Kd.R_mono HO_8.out (fun _ hk => ⟨hk.2, hk.1⟩)) | exact Kd.R_mono (rst (Kd.R_mono HO_8.out (fun _ hk => ⟨hk.2, hk.1⟩))) (by intro k_ hk_; simpa only [ob_eq] using hk_)⟩, ⟨by first | exact rst (Kd.R_mono HO_9.out (fun _ hk => ⟨hk.2, hk.1⟩)) | exact Kd.R_mono (rst (Kd.R_mono HO_9.out (fun _ hk => ⟨hk.2, hk.1⟩))) (by intro k_ hk_; simpa only [ob_eq] using hk_)⟩, ⟨by (with_reducible repeat (first | apply Kd.S_alloc | apply Kd.S_drewN | apply Kd.S_drew)); exact Kd.S_mono HO_10.out (fun _ hk => ⟨hk.2, ⟨hk.1.1, hk.1.2⟩⟩)⟩, ⟨bst HB⟩⟩
               case round =>
                clear H'; (try clear c1); (try clear p1); (try clear q1); (try clear hx1); (try clear c2); (try clear p2); (try clear c3); (try clear c4); (try clear c5); (try clear c6); (try clear c6b0); (try clear p6); (try clear q6); (try clear hx6); (try clear hf6); (try clear c7); (try clear c8); (try clear c8b0); (try clear p8); (try clear q8); (try clear hx8); (try clear hf8); (try clear c9); (try clear c9b0); (try clear c10); (try clear c11); (try clear c12); (try clear p13); (try clear q13); (try clear hx13); (try clear p14); (try clear q14); (try clear hx14); (try clear p16); (try clear q16); (try clear hx16); (try clear c22); (try clear c22b0); (try clear c23); (try clear c23b0); (try clear c24); (try clear c24b0); (try clear c28); (try clear c28b0); (try clear c28b1); (try clear c29); (try clear c30); (try clear c31); (try clear c32); (try clear c33); (try clear c33b0); (try clear c41)
                (try clear c41b0)
                (try clear c56)
                (try clear c56b0)
                (try clear c56b1)
                (try clear c57)
                (try clear c57b0)
                (try clear c57b1)
                (try clear c57b2)
                (try clear c59)
                (try clear c59b0)
                (try clear c60)
                (try clear c60b0)
                (try clear c61)
                (try clear c61b0)
                (try clear c62)
                (try clear c62b0)
                (try clear c63)
                (try clear c63b0)
                (try clear c63b1)
                (try clear c64)
                (try clear c64b0)
                (try clear p64)
                (try clear p65)
                (try clear q65)
                (try clear hx65)
                (try clear hf65)
                (try clear p66)
                (try clear q66)
                (try clear hx66)
                (try clear hf66)
                (try clear c73)
                (try clear c73b0)
                (try clear c73b1)
                (try clear c74)
                (try clear c74b0)
                (try clear c74b1)
                (try clear c74b2)
                (try clear c76)
                (try clear c76b0)
                (try clear c77)
                (try clear c77b0)
                (try clear c78)
                (try clear c78b0)
                (try clear c79)
                (try clear c79b0)
                (try clear p80)
                (try clear q80)
                (try clear hx80)
                (try clear hf80)
                (try clear c81)
                (try clear c81b0)
                (try clear c82)
                (try clear c82b0)
                (try clear c83)
                (try clear c83b0)
                (try clear p84)
                (try clear q84)
                (try clear hx84)
                (try clear hf84)
                (try clear hx132_0)
                (try clear hx132_1)
                (try clear hx132_2)
                (try clear hx132_3)
                (try clear hx132_4)
                (try clear hx146_0)
                (try clear hx146_1)
                (try clear hx146_2)
                (try clear hx146_3)
                (try clear hx146_4)
                (try clear hx160_0)
                (try clear hx161_0)
                (try clear hx161_1)
                (try clear hx161_2)
                (try clear hx161_3)
                (try clear hx161_4)
                (try clear hx162_0)
                (try clear hx165_0)
                (try clear hx167_0)
                (try clear hx65_0)
                (try clear hx66_0)
                (try clear hx80_0)
                (try clear hx84_0)
                (try clear p1)
                (try clear p13)
                (try clear p132)
                (try clear p14)
                (try clear p146)
                (try clear p160)
                (try clear p161)
                (try clear p162)
                (try clear p165)
                (try clear p167)
                (try clear p2)
                (try clear p6)
                (try clear p65)
                (try clear p66)
                (try clear p80)
                (try clear p84)
                (try clear q1)
                (try clear q13)
                (try clear q132)
                (try clear q14)
                (try clear q146)
                (try clear q160)
                (try clear q161)
                (try clear q162)
                (try clear q165)
                (try clear q167)
                (try clear q65)
                (try clear q66)
                (try clear q80)
                (try clear q84)
                obtain ⟨x6_5, x14_5, rfl, HA, HK5, HO_6, HO_8, HO_9, HO_10, HB⟩ := hrel
                have hl6_5 := (Kd.R_reads' HO_6.out).1
                rw [hl6_5] at HO_6
                (try simp only [hl6_5])
                (try simp only [hl6_5] at HO_8)
                (try simp only [hl6_5] at HO_9)
                (try simp only [hl6_5] at HO_10)
                cases gk with
                | zero => exact absurd HA.out (by simp [spec_l08Pairs.l2])
                | succ k5 =>
                 have H := HA.out
                 clear HA
                 simp only [spec_l08Pairs.l2] at H
                 replace H : (if 0 ≤ (ji75) then (if (ji75) < (x10_3.length : Int) then (if x14_5 < ((rd_L3 x10_3 (ji75)).length : Int) then (if 0 ≤ x14_5 then (if 0 ≤ (rd (rd_L3 x10_3 (ji75)) x14_5) then (if (rd (rd_L3 x10_3 (ji75)) x14_5) < (x6_5.length : Int) then (spec_l08Pairs.l2 k5 l1 (x6_5.set ((rd (rd_L3 x10_3 (ji75)) x14_5) : Int).toNat x11_3) x8_3 x9_3 x10_3 x11_3 (x8_3.length : Int) (wrap64 (x14_5 + 1))) else (none)) else (none)) else (none)) else (if (ji75) ≤ (x8_3.length : Int) then (if (ji75) ≤ (x9_3.length : Int) then (if (ji75) ≤ (x10_3.length : Int) then (spec_l08Pairs.l1 k5 l1 x6_5 (x8_3.take ((ji75) : Int).toNat) (x9_3.take ((ji75) : Int).toNat) (x10_3.take ((ji75) : Int).toNat) (wrap64 (x11_3 + 1))) else (none)) else (none)) else (none))) else (none)) else (none)) = some (r1, r2) := by first | (rw [hji75] at H; exact H) | (simp only [hji75] at H ⊢; exact H)
                 have hji75w : (IntKind.i64.wrap ((x8_3.length : Int) - 1)) = ji75 := (i64_w _).trans hji75
                 replace H := ifp H; obtain ⟨c91, H⟩ := H
                 have c91b0 : decide (0 ≤ (ji75)) = true := decide_eq_true c91
                 clear c91
                 replace H := ifp H; obtain ⟨c92, H⟩ := H
                 have c92b0 : decide ((ji75) < (x10_3.length : Int)) = true := decide_eq_true c92
                 clear c92
                 by_cases c93 : x14_5 < ((rd_L3 x10_3 (ji75)).length : Int)
                 ·
                  rw [if_pos c93] at H
                  have c93b0 : decide (x14_5 < ((rd_L3 x10_3 (ji75)).length : Int)) = true := decide_eq_true c93
                  clear c93
                  replace H := ifp H; obtain ⟨c94, H⟩ := H
                  have c94b0 : decide (0 ≤ x14_5) = true := decide_eq_true c94
                  clear c94
                  replace H := ifp H; obtain ⟨c95, H⟩ := H
                  have c95b0 : decide (0 ≤ (rd (rd_L3 x10_3 (ji75)) x14_5)) = true := decide_eq_true c95
                  clear c95
                  replace H := ifp H; obtain ⟨c96, H⟩ := H
                  have c96b0 : decide ((rd (rd_L3 x10_3 (ji75)) x14_5) < (x6_5.length : Int)) = true := decide_eq_true c96
                  clear c96
                  obtain ⟨y172, hy172⟩ : ∃ y_ : List Int, y_ = (x6_5.set ((rd (rd_L3 x10_3 (ji75)) x14_5) : Int).toNat x11_3) := ⟨_, rfl⟩
                  replace H : (spec_l08Pairs.l2 k5 l1 y172 x8_3 x9_3 x10_3 x11_3 (x8_3.length : Int) (wrap64 (x14_5 + 1))) = some (r1, r2) := by first | (rw [hy172]; with_reducible exact H) | (have H2_ := bsm H; rw [hy172]; with_reducible exact H2_) | (have H2_ := bsm H; exact H2_) | (rw [hy172]; exact H) | exact H
                  have Ny172 := am hy172; clear hy172; have H' := am H; clear H
                  obtain ⟨Ao98, co98, eo98⟩ := Kd.S_slice HO_10.out
                  subst eo98
                  have p169 : 0 ≤ ((ji75) : Int) := od (by assumption)
                  have q169 : (ji75) < (x10_3.length : Int) := od (by assumption)
                  obtain ⟨ad169, A169_0, c169_0, e169, hx169_0, hl169_0, hi169_0⟩ := at_L3 (Kd.S_reads' HO_10.out).2.2 (ji75) p169 q169
                  cases e169
                  obtain ⟨ce169, hce169, hMe169, hcc169⟩ := Kd.S_get HO_10.out [] (ji75) p169 (by first | exact q169 | exact od (by assumption) | (have e_ := (Kd.S_reads' HO_10.out).1; omega))
                  obtain ⟨ve169_0, rfl, ge169_0⟩ := hMe169
                  have hv169_0 := hcc169 0 _ rfl
                  rw [Nat.add_zero, show ((Kd.slice 2 (Kd.int .i64))).sz = 1 from rfl, Nat.mul_one] at hv169_0
                  replace hv169_0 := Option.some.inj (hv169_0.symm.trans hx169_0)
                  rw [hv169_0] at ge169_0
                  have HL169_0 := am (show Kd.R (Kd.int .i64) 2 _ _ _ _ (rd_L3 x10_3 (ji75)) from ge169_0)
                  clear hv169_0 ge169_0
                  have HX169_0 := am hx169_0
                  clear hcc169 hce169
                  have HR169_0 := am hi169_0
                  have HC169_0 := am hl169_0
                  clear hi169_0 hl169_0; replace p169 := eq_true p169; replace q169 := eq_true q169
                  have p170 : 0 ≤ ((ji75) : Int) := od (by assumption)
                  have q170 : (ji75) < (x10_3.length : Int) := od (by assumption)
                  obtain ⟨ad170, A170_0, c170_0, e170, hx170_0, hl170_0, hi170_0⟩ := at_L3 (Kd.S_reads' HO_10.out).2.2 (ji75) p170 q170
                  obtain rfl : ad169 = ad170 := (by injection e170)
                  obtain ⟨ce170, hce170, hMe170, hcc170⟩ := Kd.S_get HO_10.out [] (ji75) p170 (by first | exact q170 | exact od (by assumption) | (have e_ := (Kd.S_reads' HO_10.out).1; omega))
                  obtain ⟨ve170_0, rfl, ge170_0⟩ := hMe170
                  have hv170_0 := hcc170 0 _ rfl
                  rw [Nat.add_zero, show ((Kd.slice 2 (Kd.int .i64))).sz = 1 from rfl, Nat.mul_one] at hv170_0
                  replace hv170_0 := Option.some.inj (hv170_0.symm.trans hx170_0)
                  rw [hv170_0] at ge170_0
                  have HL170_0 := am (show Kd.R (Kd.int .i64) 2 _ _ _ _ (rd_L3 x10_3 (ji75)) from ge170_0)
                  clear hv170_0 ge170_0
                  have HX170_0 := am hx170_0
                  clear hcc170 hce170
                  have HR170_0 := am hi170_0
                  have HC170_0 := am hl170_0
                  clear hi170_0 hl170_0; replace p170 := eq_true p170; replace q170 := eq_true q170
                  have ea_ := Option.some.inj (hx169_0.symm.trans hx170_0)
                  injection ea_ with ea_ en_ ec_
                  subst ea_
                  subst ec_
                  clear en_
                  have p171 : 0 ≤ (x14_5 : Int) := od (by assumption)
                  have q171 : x14_5 < ((rd_L3 x10_3 (ji75)).length : Int) := od (by assumption)
                  obtain ⟨ad171, e171, hx171_0⟩ := Kd.at_int (by repeat (first | (with_reducible exact HR170_0.out) | (with_reducible refine Kd.C_alloc ?_ _) | (with_reducible refine Kd.C_drewN ?_ _) | (with_reducible refine Kd.C_drew ?_) | exact HR170_0.out)) x14_5 p171 q171
                  cases e171
                  replace p171 := eq_true p171; replace q171 := eq_true q171
                  have p97 : 0 ≤ ((rd (rd_L3 x10_3 (ji75)) x14_5) : Int) := od (by assumption)
                  have q97 : ((rd (rd_L3 x10_3 (ji75)) x14_5) : Int) < ((x6_5.length : Int) : Int) := od (by assumption)
                  obtain ⟨hx97_0, hf97_0⟩ := Kd.R_celln 0 HO_6.out ((rd (rd_L3 x10_3 (ji75)) x14_5) : Int) p97 q97
                  replace p97 := eq_true p97; replace q97 := eq_true q97
                  have HP99 := Kd.R_putg HO_6.out ((rd (rd_L3 x10_3 (ji75)) x14_5) : Int) x11_3
                  go_wp2_with (first | ((with_reducible refine gate_store (t := 2) (p := 153) rfl ?_); refine store_event (t := 2) (p := 153) (v := ?vo_w100) (w1 := (wr.setCell ⟨go80, ((rd (rd_L3 x10_3 (ji75)) x14_5) : Int).toNat, none⟩ (.int .i64 x11_3))) ?hg ?ho ?hn ?hr ?_; (case ho => rfl); (case hg => rfl); (case hn => rfl); (case hr => first | (go_simp; done) | (go_simp; rfl)); intro w100 hw; have hg : wr.grownBy w100 (some go80) := (by rw [hw]; exact HP99.2); have hp_ : Kd.R (Kd.int .i64) 2 w100 w.heap.size (fun k_ => some k_ ≠ (.slice (some ad167) x8_3.length co27 : Value).ownBlock ∧ some k_ ≠ (.slice (some ad165) x9_3.length co85 : Value).ownBlock) (.slice (some ⟨go80, 0, none⟩) x6_5.length co26) y172 := (by rw [hw, Ny172.out]; exact HP99.1); clear HP99; have n0_ := am (hp_); have n1_ := am (Kd.R_after (v := (.slice (some ⟨go80, 0, none⟩) x6_5.length co26)) (v1 := (.slice (some ⟨go80, 0, none⟩) x6_5.length co26)) (ok := (fun k_ => some k_ ≠ (.slice (some ad165) x9_3.length co85 : Value).ownBlock)) (rst (Kd.R_mono HO_8.out (fun _ hk => ⟨hk.2, hk.1⟩))) hg (.inl rfl)); have n2_ := am (Kd.R_after (v := (.slice (some ⟨go80, 0, none⟩) x6_5.length co26)) (v1 := (.slice (some ⟨go80, 0, none⟩) x6_5.length co26)) (ok := (fun k_ => some k_ ≠ (.slice (some ad167) x8_3.length co27 : Value).ownBlock)) (rst (Kd.R_mono HO_9.out (fun _ hk => ⟨hk.2, hk.1⟩))) hg (.inl rfl)); have n3_ := am (Kd.S_after (v := (.slice (some ⟨go80, 0, none⟩) x6_5.length co26)) (v1 := (.slice (some ⟨go80, 0, none⟩) x6_5.length co26)) (ok := (fun k_ => some k_ ≠ (.slice (some ad167) x8_3.length co27 : Value).ownBlock ∧ some k_ ≠ (.slice (some ad165) x9_3.length co85 : Value).ownBlock)) (sst (Kd.S_mono HO_10.out (fun _ hk => ⟨⟨hk.2.1, hk.2.2⟩, hk.1⟩))) hg (.inl rfl)); have n4_ := am (Kd.R_after (v := (.slice (some ⟨go80, 0, none⟩) x6_5.length co26)) (v1 := (.slice (some ⟨go80, 0, none⟩) x6_5.length co26)) (ok := (fun k_ => some k_ ≠ (.slice (some ad167) x8_3.length co27 : Value).ownBlock ∧ some k_ ≠ (.slice (some ad165) x9_3.length co85 : Value).ownBlock ∧ some k_ ≠ (.slice (some ad169) x10_3.length co98 : Value).ownBlock)) (by (with_reducible repeat (first | apply Kd.R_alloc | apply Kd.R_drewN | apply Kd.R_drew)); exact Kd.R_mono HL169_0.out (fun _ hk => ⟨⟨hk.1.2.1, ⟨hk.1.2.2, hk.2⟩⟩, hk.1.1⟩)) hg (.inl rfl)); have n5_ := am (Kd.R_after (v := (.slice (some ⟨go80, 0, none⟩) x6_5.length co26)) (v1 := (.slice (some ⟨go80, 0, none⟩) x6_5.length co26)) (ok := (fun k_ => some k_ ≠ (.slice (some ad167) x8_3.length co27 : Value).ownBlock ∧ some k_ ≠ (.slice (some ad165) x9_3.length co85 : Value).ownBlock ∧ some k_ ≠ (.slice (some ad169) x10_3.length co98 : Value).ownBlock)) (by (with_reducible repeat (first | apply Kd.R_alloc | apply Kd.R_drewN | apply Kd.R_drew)); exact Kd.R_mono HL170_0.out (fun _ hk => ⟨⟨hk.1.2.1, ⟨hk.1.2.2, hk.2⟩⟩, hk.1.1⟩)) hg (.inl rfl)); have n6_ := am ((by rw [hw]; exact below_set (HB.out) GB80.out : Below w.heap.size w w100)); clear HO_6; clear HO_8; clear HO_9; clear HO_10; clear HL169_0; clear HL170_0; clear HB; have HO_6 := n0_; have HO_8 := n1_; have HO_9 := n2_; have HO_10 := n3_; have HL169_0 := n4_; have HL170_0 := n5_; have HB := n6_; clear n0_ n1_ n2_ n3_ n4_ n5_ n6_; clear hg hw hp_))
                  (try simp only [← hl6_5])
                  go_roundg k5
                  case measure => have := HK1.out; have := HJ4.out; have := HK3.out; have := HJ24.out; have := HK5.out; omega
                  case rel => exact ⟨(y172), (wrap64 (x14_5 + 1)), (by first | rfl | (simp; done) | (simp [*]; done)), H', ⟨by have := HK1.out; have := HJ4.out; have := HK3.out; have := HJ24.out; have := HK5.out; omega⟩, ⟨by (try simp only [hl6_5]); (with_reducible repeat (first | apply Kd.R_alloc | apply Kd.R_drewN | apply Kd.R_drew)); exact HO_6.out⟩, ⟨by (try simp only [hl6_5]); (with_reducible repeat (first | apply Kd.R_alloc | apply Kd.R_drewN | apply Kd.R_drew)); exact Kd.R_mono HO_8.out (fun _ hk => ⟨hk.2, hk.1⟩)⟩, ⟨by (try simp only [hl6_5]); (with_reducible repeat (first | apply Kd.R_alloc | apply Kd.R_drewN | apply Kd.R_drew)); exact Kd.R_mono HO_9.out (fun _ hk => ⟨hk.2, hk.1⟩)⟩, ⟨by (try simp only [hl6_5]); (with_reducible repeat (first | apply Kd.S_alloc | apply Kd.S_drewN | apply Kd.S_drew)); exact Kd.S_mono HO_10.out (fun _ hk => ⟨hk.2, ⟨hk.1.1, hk.1.2⟩⟩)⟩, ⟨bst HB⟩⟩
                 ·
                  rw [if_neg c93] at H
                  have c93b0 : decide (x14_5 < ((rd_L3 x10_3 (ji75)).length : Int)) = false := decide_eq_false c93
                  clear c93
                  replace H := ifp H; obtain ⟨c101, H⟩ := H
                  have c101b0 := eq_true c101
                  have c101b1 : decide ((ji75) ≤ (x8_3.length : Int)) = true := decide_eq_true c101
                  clear c101
                  obtain ⟨y173, hy173⟩ : ∃ y_ : List Int, y_ = (x8_3.take ((ji75) : Int).toNat) := ⟨_, rfl⟩
                  replace H : (if (ji75) ≤ (x9_3.length : Int) then (if (ji75) ≤ (x10_3.length : Int) then (spec_l08Pairs.l1 k5 l1 x6_5 y173 (x9_3.take ((ji75) : Int).toNat) (x10_3.take ((ji75) : Int).toNat) (wrap64 (x11_3 + 1))) else (none)) else (none)) = some (r1, r2) := by first | (rw [hy173]; with_reducible exact H) | (have H2_ := bsm H; rw [hy173]; with_reducible exact H2_) | (have H2_ := bsm H; exact H2_) | (rw [hy173]; exact H) | exact H
                  have Ny173 := am hy173; clear hy173
                  replace H := ifp H; obtain ⟨c102, H⟩ := H
                  have c102b0 := eq_true c102
                  have c102b1 : decide ((ji75) ≤ (x9_3.length : Int)) = true := decide_eq_true c102
                  clear c102
                  obtain ⟨y176, hy176⟩ : ∃ y_ : List Int, y_ = (x9_3.take ((ji75) : Int).toNat) := ⟨_, rfl⟩
                  replace H : (if (ji75) ≤ (x10_3.length : Int) then (spec_l08Pairs.l1 k5 l1 x6_5 y173 y176 (x10_3.take ((ji75) : Int).toNat) (wrap64 (x11_3 + 1))) else (none)) = some (r1, r2) := by first | (rw [hy176]; with_reducible exact H) | (have H2_ := bsm H; rw [hy176]; with_reducible exact H2_) | (have H2_ := bsm H; exact H2_) | (rw [hy176]; exact H) | exact H
                  have Ny176 := am hy176; clear hy176
                  replace H := ifp H; obtain ⟨c103, H⟩ := H
                  have c103b0 := eq_true c103
                  have c103b1 : decide ((ji75) ≤ (x10_3.length : Int)) = true := decide_eq_true c103
                  clear c103
                  obtain ⟨y179, hy179⟩ : ∃ y_ : List (List Int), y_ = (x10_3.take ((ji75) : Int).toNat) := ⟨_, rfl⟩
                  replace H : (spec_l08Pairs.l1 k5 l1 x6_5 y173 y176 y179 (wrap64 (x11_3 + 1))) = some (r1, r2) := by first | (rw [hy179]; with_reducible exact H) | (have H2_ := bsm H; rw [hy179]; with_reducible exact H2_) | (have H2_ := bsm H; exact H2_) | (rw [hy179]; exact H) | exact H
                  have Ny179 := am hy179; clear hy179; have H' := am H; clear H
                  obtain ⟨Ao104, co104, eo104⟩ := Kd.S_slice HO_10.out
                  subst eo104
                  have p169 : 0 ≤ ((ji75) : Int) := od (by assumption)
                  have q169 : (ji75) < (x10_3.length : Int) := od (by assumption)
                  obtain ⟨ad169, A169_0, c169_0, e169, hx169_0, hl169_0, hi169_0⟩ := at_L3 (Kd.S_reads' HO_10.out).2.2 (ji75) p169 q169
                  cases e169
                  obtain ⟨ce169, hce169, hMe169, hcc169⟩ := Kd.S_get HO_10.out [] (ji75) p169 (by first | exact q169 | exact od (by assumption) | (have e_ := (Kd.S_reads' HO_10.out).1; omega))
                  obtain ⟨ve169_0, rfl, ge169_0⟩ := hMe169
                  have hv169_0 := hcc169 0 _ rfl
                  rw [Nat.add_zero, show ((Kd.slice 2 (Kd.int .i64))).sz = 1 from rfl, Nat.mul_one] at hv169_0
                  replace hv169_0 := Option.some.inj (hv169_0.symm.trans hx169_0)
                  rw [hv169_0] at ge169_0
                  have HL169_0 := am (show Kd.R (Kd.int .i64) 2 _ _ _ _ (rd_L3 x10_3 (ji75)) from ge169_0)
                  clear hv169_0 ge169_0
                  have HX169_0 := am hx169_0
                  clear hcc169 hce169
                  have HR169_0 := am hi169_0
                  have HC169_0 := am hl169_0
                  clear hi169_0 hl169_0; replace p169 := eq_true p169; replace q169 := eq_true q169
                  have q105 : ((ji75) : Int) ≤ ((x8_3.length : Int) : Int) := od (by assumption)
                  obtain ⟨i0105, hi0105, _, hsz105, _⟩ := info_parts info2
                  have hcut105 := cut_to (P := Try.prog) 22 2 .i64 Try.underlying22 hi0105 (some ad167) x8_3.length co27 (ji75) (od (by assumption)) q105 (Kd.R_reads' HO_8.out).2.1
                  have hr105 := Kd.R_take (m := ((ji75) : Int).toNat) HO_8.out (by omega)
                  have hy105 : y173.length = ((ji75) : Int).toNat := (by rw [Ny173.out, List.length_take]; omega)
                  rw [← Ny173.out] at hr105
                  rw [← hy105] at hr105 hcut105
                  clear hy105 hi0105 hsz105 HO_8
                  have HO175 := am hr105
                  clear hr105; replace q105 := eq_true q105
                  have q106 : ((ji75) : Int) ≤ ((x9_3.length : Int) : Int) := od (by assumption)
                  obtain ⟨i0106, hi0106, _, hsz106, _⟩ := info_parts info2
                  have hcut106 := cut_to (P := Try.prog) 22 2 .i64 Try.underlying22 hi0106 (some ad165) x9_3.length co85 (ji75) (od (by assumption)) q106 (Kd.R_reads' HO_9.out).2.1
                  have hr106 := Kd.R_take (m := ((ji75) : Int).toNat) HO_9.out (by omega)
                  have hy106 : y176.length = ((ji75) : Int).toNat := (by rw [Ny176.out, List.length_take]; omega)
                  rw [← Ny176.out] at hr106
                  rw [← hy106] at hr106 hcut106
                  clear hy106 hi0106 hsz106 HO_9
                  have HO178 := am hr106
                  clear hr106; replace q106 := eq_true q106
                  have q107 : ((ji75) : Int) ≤ ((x10_3.length : Int) : Int) := od (by assumption)
                  obtain ⟨i0107, hi0107, _, hsz107, _⟩ := info_parts info22
                  have hcut107 := cut_to (P := Try.prog) 50 22 .i64 Try.underlying50 hi0107 (some ad169) x10_3.length co104 (ji75) (od (by assumption)) q107 (Kd.S_reads' HO_10.out).2.1
                  have hr107 := Kd.S_take (m := ((ji75) : Int).toNat) HO_10.out (by omega)
                  have hy107 : y179.length = ((ji75) : Int).toNat := (by rw [Ny179.out, List.length_take]; omega)
                  rw [← Ny179.out] at hr107
                  rw [← hy107] at hr107 hcut107
                  clear hy107 hi0107 hsz107 HO_10
                  have HO181 := am hr107
                  clear hr107; replace q107 := eq_true q107
                  go_wp2
                  (try simp only [← hl6_5])
                  go_roundg k5
                  case measure => have := HK1.out; have := HJ4.out; have := HK3.out; have := HJ24.out; have := HK5.out; omega
                  case rel => exact ⟨(x6_5), (y173), (y176), (y179), (wrap64 (x11_3 + 1)), (by first | rfl | (simp; done) | (simp [*]; done)), H', ⟨by have := HK1.out; have := HJ4.out; have := HK3.out; have := HJ24.out; have := HK5.out; omega⟩, ⟨by (try simp only [hl6_5]); (with_reducible repeat (first | apply Kd.R_alloc | apply Kd.R_drewN | apply Kd.R_drew)); exact HO_6.out⟩, ⟨by (try simp only [hl6_5]); (with_reducible repeat (first | apply Kd.R_alloc | apply Kd.R_drewN | apply Kd.R_drew)); exact HO175.out⟩, ⟨by (try simp only [hl6_5]); (with_reducible repeat (first | apply Kd.R_alloc | apply Kd.R_drewN | apply Kd.R_drew)); exact HO178.out⟩, ⟨by (try simp only [hl6_5]); (with_reducible repeat (first | apply Kd.S_alloc | apply Kd.S_drewN | apply Kd.S_drew)); exact HO181.out⟩, ⟨bst HB⟩⟩
             ·
              rw [if_neg c73] at H
              have c73b0 : (((rd_T75 l1 x11_3).f0) == 4) = false := beq_eq_false_iff_ne.mpr c73
              have c73b1 : (((rd_T75 l1 x11_3).f0) != 4) = true := bne_iff_ne.mpr c73
              by_cases c108 : ((rd_T75 l1 x11_3).f0) = 6
              ·
               rw [if_pos c108] at H
               have c108b0 : (((rd_T75 l1 x11_3).f0) == 6) = true := beq_iff_eq.mpr c108
               have c108b1 : (((rd_T75 l1 x11_3).f0) != 6) = false := bne_eq_false_iff_eq.mpr c108
               clear c108; have H' := am H; clear H
               go_wp2
               go_loopg [15] kj24 (fun kq v15 w' => ∃ (x15_5 : Int), v15 = .int .i64 x15_5 ∧ Aside0 (spec_l08Pairs.l3 kq l1 x6_3 x8_3 x9_3 x10_3 x11_3 x15_5 = some (r1, r2)) ∧ Aside0 (kq ≤ kj24) ∧ Aside0 (Kd.R (Kd.int .i64) 2 w' w.heap.size (fun k_ => some k_ ≠ ((.slice Ao27 x8_3.length co27) : Value).ownBlock ∧ some k_ ≠ (u9 : Value).ownBlock) (.slice Ao26 x6_3.length co26) x6_3) ∧ Aside0 (Kd.R (Kd.int .i64) 2 w' w.heap.size (fun k_ => some k_ ≠ ((.slice Ao26 x6_3.length co26) : Value).ownBlock ∧ some k_ ≠ (u9 : Value).ownBlock) (.slice Ao27 x8_3.length co27) x8_3) ∧ Aside0 (Kd.R (Kd.int .i64) 2 w' w.heap.size (fun k_ => some k_ ≠ ((.slice Ao26 x6_3.length co26) : Value).ownBlock ∧ some k_ ≠ ((.slice Ao27 x8_3.length co27) : Value).ownBlock) u9 x9_3) ∧ Aside0 (Kd.S (Kd.slice 2 (Kd.int .i64)) 22 w' w.heap.size (fun k_ => some k_ ≠ ((.slice Ao26 x6_3.length co26) : Value).ownBlock ∧ some k_ ≠ ((.slice Ao27 x8_3.length co27) : Value).ownBlock ∧ some k_ ≠ (u9 : Value).ownBlock) u10 x10_3) ∧ Aside0 (Below w.heap.size w w'))
               case atStart => exact ⟨(wrap64 ((x8_3.length : Int) - 1)), (by first | rfl | (simp; done) | (simp [*]; done)), H', ⟨Nat.le_refl _⟩, ⟨by first | exact rst HO_6.out | exact Kd.R_mono (rst HO_6.out) (by intro k_ hk_; simpa only [ob_eq] using hk_)⟩, ⟨by first | exact rst HO_8.out | exact Kd.R_mono (rst HO_8.out) (by intro k_ hk_; simpa only [ob_eq] using hk_)⟩, ⟨by first | exact rst HO_9.out | exact Kd.R_mono (rst HO_9.out) (by intro k_ hk_; simpa only [ob_eq] using hk_)⟩, ⟨by (with_reducible repeat (first | apply Kd.S_alloc | apply Kd.S_drewN | apply Kd.S_drew)); exact HO_10.out⟩, ⟨bst HB⟩⟩
               case round =>
                clear H'; (try clear c1); (try clear p1); (try clear q1); (try clear hx1); (try clear c2); (try clear p2); (try clear c3); (try clear c4); (try clear c5); (try clear c6); (try clear c6b0); (try clear p6); (try clear q6); (try clear hx6); (try clear hf6); (try clear c7); (try clear c8); (try clear c8b0); (try clear p8); (try clear q8); (try clear hx8); (try clear hf8); (try clear c9); (try clear c9b0); (try clear p9); (try clear q9); (try clear hx9); (try clear hf9); (try clear c10); (try clear q10); (try clear c11); (try clear c12); (try clear p13); (try clear q13); (try clear hx13); (try clear p14); (try clear q14); (try clear hx14); (try clear c16); (try clear p16); (try clear q16); (try clear hx16); (try clear c17); (try clear p17); (try clear q17); (try clear hx17); (try clear c22); (try clear c22b0); (try clear c23); (try clear c23b0); (try clear c24); (try clear c24b0)
                (try clear c28)
                (try clear c28b0)
                (try clear c28b1)
                (try clear c29)
                (try clear c30)
                (try clear c31)
                (try clear c32)
                (try clear c33)
                (try clear c33b0)
                (try clear c41)
                (try clear c41b0)
                (try clear c56)
                (try clear c56b0)
                (try clear c56b1)
                (try clear c57)
                (try clear c57b0)
                (try clear c57b1)
                (try clear c57b2)
                (try clear c59)
                (try clear c59b0)
                (try clear c60)
                (try clear c60b0)
                (try clear c61)
                (try clear c61b0)
                (try clear c62)
                (try clear c62b0)
                (try clear c63)
                (try clear c63b0)
                (try clear c63b1)
                (try clear c64)
                (try clear c64b0)
                (try clear p64)
                (try clear p65)
                (try clear q65)
                (try clear hx65)
                (try clear hf65)
                (try clear p66)
                (try clear q66)
                (try clear hx66)
                (try clear hf66)
                (try clear c73)
                (try clear c73b0)
                (try clear c73b1)
                (try clear c74)
                (try clear c74b0)
                (try clear c74b1)
                (try clear c74b2)
                (try clear c76)
                (try clear c76b0)
                (try clear c77)
                (try clear c77b0)
                (try clear c78)
                (try clear c78b0)
                (try clear c79)
                (try clear c79b0)
                (try clear p80)
                (try clear q80)
                (try clear hx80)
                (try clear hf80)
                (try clear c81)
                (try clear c81b0)
                (try clear c82)
                (try clear c82b0)
                (try clear c83)
                (try clear c83b0)
                (try clear p84)
                (try clear q84)
                (try clear hx84)
                (try clear hf84)
                (try clear c91)
                (try clear c91b0)
                (try clear c92)
                (try clear c92b0)
                (try clear c93)
                (try clear c93b0)
                (try clear c94)
                (try clear c94b0)
                (try clear c95)
                (try clear c95b0)
                (try clear c96)
                (try clear c96b0)
                (try clear p97)
                (try clear q97)
                (try clear hx97)
                (try clear hf97)
                (try clear c101)
                (try clear c101b0)
                (try clear c101b1)
                (try clear c102)
                (try clear c102b0)
                (try clear c102b1)
                (try clear c103)
                (try clear c103b0)
                (try clear c103b1)
                (try clear q105)
                (try clear q106)
                (try clear q107)
                (try clear c108)
                (try clear c108b0)
                (try clear c108b1)
                (try clear hx132_0)
                (try clear hx132_1)
                (try clear hx132_2)
                (try clear hx132_3)
                (try clear hx132_4)
                (try clear hx146_0)
                (try clear hx146_1)
                (try clear hx146_2)
                (try clear hx146_3)
                (try clear hx146_4)
                (try clear hx160_0)
                (try clear hx161_0)
                (try clear hx161_1)
                (try clear hx161_2)
                (try clear hx161_3)
                (try clear hx161_4)
                (try clear hx162_0)
                (try clear hx165_0)
                (try clear hx167_0)
                (try clear hx169_0)
                (try clear hx170_0)
                (try clear hx171_0)
                (try clear hx65_0)
                (try clear hx66_0)
                (try clear hx80_0)
                (try clear hx84_0)
                (try clear hx97_0)
                (try clear p1)
                (try clear p13)
                (try clear p132)
                (try clear p14)
                (try clear p146)
                (try clear p16)
                (try clear p160)
                (try clear p161)
                (try clear p162)
                (try clear p165)
                (try clear p167)
                (try clear p169)
                (try clear p170)
                (try clear p171)
                (try clear p2)
                (try clear p6)
                (try clear p64)
                (try clear p65)
                (try clear p66)
                (try clear p8)
                (try clear p80)
                (try clear p84)
                (try clear p97)
                (try clear q1)
                (try clear q105)
                (try clear q106)
                (try clear q107)
                (try clear q13)
                (try clear q132)
                (try clear q14)
                (try clear q146)
                (try clear q16)
                (try clear q160)
                (try clear q161)
                (try clear q162)
                (try clear q165)
                (try clear q167)
                (try clear q169)
                (try clear q170)
                (try clear q171)
                (try clear q6)
                (try clear q65)
                (try clear q66)
                (try clear q8)
                (try clear q80)
                (try clear q84)
                (try clear q97)
                obtain ⟨x15_5, rfl, HA, HK5, HO_6, HO_8, HO_9, HO_10, HB⟩ := hrel
                cases gk with
                | zero => exact absurd HA.out (by simp [spec_l08Pairs.l3])
                | succ k5 =>
                 have H := HA.out
                 clear HA
                 simp only [spec_l08Pairs.l3] at H
                 by_cases c109 : x15_5 ≥ 0
                 ·
                  rw [if_pos c109] at H
                  have c109b0 : decide (0 ≤ x15_5) = true := decide_eq_true c109
                  clear c109
                  replace H := ifp H; obtain ⟨c110, H⟩ := H
                  have c110b0 : decide (0 ≤ x15_5) = true := decide_eq_true c110
                  clear c110
                  replace H := ifp H; obtain ⟨c111, H⟩ := H
                  have c111b0 : decide (x15_5 < (x8_3.length : Int)) = true := decide_eq_true c111
                  clear c111
                  replace H := ifp H; obtain ⟨c112, H⟩ := H
                  have c112b0 : decide (0 ≤ (rd x8_3 x15_5)) = true := decide_eq_true c112
                  clear c112
                  replace H := ifp H; obtain ⟨c113, H⟩ := H
                  have c113b0 : decide ((rd x8_3 x15_5) < (l1.length : Int)) = true := decide_eq_true c113
                  clear c113
                  by_cases c114 : ((rd_T75 l1 (rd x8_3 x15_5)).f0) = 5
                  ·
                   rw [if_pos c114] at H
                   have c114b0 : (((rd_T75 l1 (rd x8_3 x15_5)).f0) == 5) = true := beq_iff_eq.mpr c114
                   have c114b1 : (((rd_T75 l1 (rd x8_3 x15_5)).f0) != 5) = false := bne_eq_false_iff_eq.mpr c114
                   clear c114
                   by_cases c115 : x15_5 < 0
                   ·
                    rw [if_pos c115] at H
                    have c115b0 : decide (x15_5 < 0) = true := decide_eq_true c115
                    clear c115
                    simp only [Option.some.injEq, Prod.mk.injEq] at H
                    obtain ⟨rfl, rfl⟩ := H
                    have p182 : 0 ≤ (x15_5 : Int) := od (by assumption)
                    have q182 : x15_5 < (x8_3.length : Int) := od (by assumption)
                    obtain ⟨ad182, e182, hx182_0⟩ := Kd.at_int (Kd.R_reads' HO_8.out).2.2 x15_5 p182 q182
                    cases e182
                    replace p182 := eq_true p182; replace q182 := eq_true q182
                    have p183 : 0 ≤ ((rd x8_3 x15_5) : Int) := od (by assumption)
                    have q183 : (rd x8_3 x15_5) < (l1.length : Int) := od (by assumption)
                    obtain ⟨ad183, e183, hx183_0, hx183_1, hx183_2, hx183_3, hx183_4⟩ := at_T75 HR1.out (rd x8_3 x15_5) p183 q183
                    obtain rfl : ad146 = ad183 := (by injection e183)
                    replace hx183_0 := bc HB hx183_0
                    replace hx183_1 := bc HB hx183_1
                    replace hx183_2 := bc HB hx183_2
                    replace hx183_3 := bc HB hx183_3
                    replace hx183_4 := bc HB hx183_4
                    replace p183 := eq_true p183; replace q183 := eq_true q183
                    go_wp2
                    go_ret2
                    exact ⟨_, by first | rfl | (simp [errW_none, errW_some] <;> rfl) | (simp [*, errW_none, errW_some] <;> rfl), by (with_reducible repeat (first | apply Kd.R_alloc | apply Kd.R_drewN | apply Kd.R_drew)); exact Kd.R_mono HO_6.out (fun _ hk => trivial), by repeat (first | (with_reducible first | exact HB.out | apply below_alloc | apply pw_below_drewN | apply below_drew1) | exact HB.out)⟩
                   ·
                    rw [if_neg c115] at H
                    have c115b0 : decide (x15_5 < 0) = false := decide_eq_false c115
                    clear c115
                    replace H := ifp H; obtain ⟨c116, H⟩ := H
                    have c116b0 : decide (x15_5 < (x10_3.length : Int)) = true := decide_eq_true c116
                    clear c116
                    replace H := ifp H; obtain ⟨c117, H⟩ := H
                    have LMc117 := am c117
                    clear c117
                    obtain ⟨y185, hy185⟩ : ∃ y_ : List Int, y_ = ((rd_L3 x10_3 x15_5) ++ [x11_3]) := ⟨_, rfl⟩
                    replace H : (spec_l08Pairs.l1 k5 l1 x6_3 x8_3 x9_3 (x10_3.set (x15_5 : Int).toNat y185) (wrap64 (x11_3 + 1))) = some (r1, r2) := by first | (rw [hy185]; with_reducible exact H) | (have H2_ := bsm H; rw [hy185]; with_reducible exact H2_) | (have H2_ := bsm H; exact H2_) | (rw [hy185]; exact H) | exact H
                    have Ny185 := am hy185; clear hy185
                    obtain ⟨y188, hy188⟩ : ∃ y_ : List (List Int), y_ = (x10_3.set (x15_5 : Int).toNat y185) := ⟨_, rfl⟩
                    replace H : (spec_l08Pairs.l1 k5 l1 x6_3 x8_3 x9_3 y188 (wrap64 (x11_3 + 1))) = some (r1, r2) := by first | (rw [hy188]; with_reducible exact H) | (have H2_ := bsm H; rw [hy188]; with_reducible exact H2_) | (have H2_ := bsm H; exact H2_) | (rw [hy188]; exact H) | exact H
                    have Ny188 := am hy188; clear hy188; have H' := am H; clear H
                    have p182 : 0 ≤ (x15_5 : Int) := od (by assumption)
                    have q182 : x15_5 < (x8_3.length : Int) := od (by assumption)
                    obtain ⟨ad182, e182, hx182_0⟩ := Kd.at_int (Kd.R_reads' HO_8.out).2.2 x15_5 p182 q182
                    cases e182
                    replace p182 := eq_true p182; replace q182 := eq_true q182
                    have p183 : 0 ≤ ((rd x8_3 x15_5) : Int) := od (by assumption)
                    have q183 : (rd x8_3 x15_5) < (l1.length : Int) := od (by assumption)
                    obtain ⟨ad183, e183, hx183_0, hx183_1, hx183_2, hx183_3, hx183_4⟩ := at_T75 HR1.out (rd x8_3 x15_5) p183 q183
                    obtain rfl : ad146 = ad183 := (by injection e183)
                    replace hx183_0 := bc HB hx183_0
                    replace hx183_1 := bc HB hx183_1
                    replace hx183_2 := bc HB hx183_2
                    replace hx183_3 := bc HB hx183_3
                    replace hx183_4 := bc HB hx183_4
                    replace p183 := eq_true p183; replace q183 := eq_true q183
                    obtain ⟨Ao119, co119, eo119⟩ := Kd.S_slice HO_10.out
                    subst eo119
                    have p184 : 0 ≤ (x15_5 : Int) := od (by assumption)
                    have q184 : x15_5 < (x10_3.length : Int) := od (by assumption)
                    obtain ⟨ad184, A184_0, c184_0, e184, hx184_0, hl184_0, hi184_0⟩ := at_L3 (Kd.S_reads' HO_10.out).2.2 x15_5 p184 q184
                    cases e184
                    obtain ⟨ce184, hce184, hMe184, hcc184⟩ := Kd.S_get HO_10.out [] x15_5 p184 (by first | exact q184 | exact od (by assumption) | (have e_ := (Kd.S_reads' HO_10.out).1; omega))
                    obtain ⟨ve184_0, rfl, ge184_0⟩ := hMe184
                    have hv184_0 := hcc184 0 _ rfl
                    rw [Nat.add_zero, show ((Kd.slice 2 (Kd.int .i64))).sz = 1 from rfl, Nat.mul_one] at hv184_0
                    replace hv184_0 := Option.some.inj (hv184_0.symm.trans hx184_0)
                    rw [hv184_0] at ge184_0
                    have HL184_0 := am (show Kd.R (Kd.int .i64) 2 _ _ _ _ (rd_L3 x10_3 x15_5) from ge184_0)
                    clear hv184_0 ge184_0
                    have HX184_0 := am hx184_0
                    clear hcc184 hce184
                    have HR184_0 := am hi184_0
                    have HC184_0 := am hl184_0
                    clear hi184_0 hl184_0; replace p184 := eq_true p184; replace q184 := eq_true q184
                    obtain ⟨go120, co120, eo120, gb120, gl120, cl120, HG120⟩ := Kd.S_form HO_10.out (by have h_ : (x15_5 : Int) < ((x10_3.length : Int) : Int) := od (by assumption); have h2_ : 0 ≤ (x15_5 : Int) := (od (by assumption)); omega)
                    (first | cases eo120 | (injection eo120 with ea_ en_ ec_; (first | subst ea_ | (injection ea_ with ea_; subst ea_)); subst ec_; clear en_))
                    have GB120 := am gb120
                    have GG120 := am HG120
                    clear gb120 gl120 HG120
                    (first | simp only [add_plain] at hx184_0 | skip)
                    obtain ⟨oki120, ce120, hcl120, hM120, hcc120, _, _, hH120⟩ := Kd.S_elem HO_10.out [] (x15_5 : Int) (od (by assumption)) (by have h_ : (x15_5 : Int) < ((x10_3.length : Int) : Int) := od (by assumption); first | exact h_ | (have e_ := (Kd.S_reads' HO_10.out).1; omega) | simpa using h_)
                    obtain ⟨ve120_0, rfl, ge120_0⟩ := hM120
                    have hv120 := hcc120 0 _ rfl
                    have hX120 := HX184_0.out
                    (try simp only [add_plain] at hX120)
                    (try simp only [Nat.add_zero] at hv120)
                    (try rw [show ((Kd.slice 2 (Kd.int .i64))).sz = 1 from rfl, Nat.mul_one] at hv120)
                    replace hv120 := Option.some.inj (hv120.symm.trans hX120)
                    subst hv120
                    clear hX120 hcc120 hcl120
                    have UU120 := am (show Kd.R (Kd.int .i64) 2 _ w.heap.size oki120 (.slice A184_0 (rd_L3 x10_3 x15_5).length c184_0) (rd_L3 x10_3 x15_5) from ge120_0)
                    have HH120 := am hH120
                    have HN120 := am (Kd.S_reads' HO_10.out).1
                    clear hH120 ge120_0
                    go_wp2_with (first | ((with_reducible refine gate_builtin (b := .append) (xs := #[.tmp 193, .tmp 195]) rfl ?_); (try (refine gate_guard (by rfl) ?_; dsimp only)); at_builtin; refine Kd.R_append (Kd.int .i64) (w0 := w) w.heap.size rfl (.tmp 193) (.tmp 195) 22 2 (.int .i64 0) 8 rfl Try.underlying22 info2 rfl (by decide) (by omega) (.slice A184_0 (rd_L3 x10_3 x15_5).length c184_0) (rd_L3 x10_3 x15_5) x11_3 [.int .i64 x11_3] (fun k_ => oki120 k_ ∨ ((fun k_ => some k_ ≠ (.slice Ao26 x6_3.length co26 : Value).ownBlock ∧ some k_ ≠ (.slice (some ad182) x8_3.length co27 : Value).ownBlock ∧ some k_ ≠ (u9 : Value).ownBlock)) k_ ∧ wr.heap.size ≤ k_) (fun _ => False) rfl rfl ?aP (fun _ hk => hk.elim) ?aF ?aO ?aB ?aS ?aL ?_; (case aP => exact rfl); (case aB => exact (bst HB)); (case aF => exact (fun k_ hk => .inr ⟨⟨Kd.fresh' (Kd.R_lt (rst HO_6.out)) k_ hk, Kd.fresh' (Kd.R_lt (rst HO_8.out)) k_ hk, Kd.fresh' (Kd.R_lt (rst HO_9.out)) k_ hk⟩, hk⟩)); (case aO => exact (by (with_reducible repeat (first | apply Kd.R_alloc | apply Kd.R_drewN | apply Kd.R_drew)); exact Kd.R_mono UU120.out (fun _ hk => .inl hk))); (case aS => exact (below_size (bst HB))); (case aL => have := LMc117.out; omega); intro v186 w121 ho hb hg hat; rw [← Ny185.out] at ho; have n0_ := am (Kd.R_grown2 (rst HO_6.out) rfl hg (fun k_ e_ => (HL184_0.out.1 k_ e_).1.1)); have n1_ := am (Kd.R_grown2 (rst HO_8.out) rfl hg (fun k_ e_ => (HL184_0.out.1 k_ e_).1.2.1)); have n2_ := am (Kd.R_grown2 (rst HO_9.out) rfl hg (fun k_ e_ => (HL184_0.out.1 k_ e_).1.2.2)); have n3_ := am (hb); have n4_ := am (Kd.H_grown (Kd.H_widen (by repeat (first | exact HH120.out | refine Kd.H_alloc ?_ _ | refine Kd.H_drewN ?_ _ | refine Kd.H_drew ?_))) hg (fun k_ e_ => .inl (UU120.out.1 k_ e_))); have n5_ := am (ho); clear HO_6; clear HO_8; clear HO_9; clear HB; clear HH120; clear HO_10; clear UU120; clear HL184_0; have HO_6 := n0_; have HO_8 := n1_; have HO_9 := n2_; have HB := n3_; have HH120 := n4_; have HO187 := n5_; clear n0_ n1_ n2_ n3_ n4_ n5_; clear ho hb hg hat; have p118 : 0 ≤ (x15_5 : Int) := od (by assumption); have q118 : (x15_5 : Int) < ((x10_3.length : Int) : Int) := od (by assumption); replace p118 := eq_true p118; replace q118 := eq_true q118; obtain ⟨Ao124, co124, eo124⟩ := Kd.R_slice HO187.out; subst eo124; obtain ⟨_, _, hraw122, _, _, hcc122, _⟩ := Kd.H_raw HH120.out (od (by assumption)) (by have h_ : (x15_5 : Int) < ((x10_3.length : Int) : Int) := od (by assumption); first | exact h_ | (have e_ := (HN120.out); omega) | simpa using h_); obtain ⟨_, hfr122⟩ := Kd.H_at HH120.out (od (by assumption)) (by have h_ : (x15_5 : Int) < ((x10_3.length : Int) : Int) := od (by assumption); first | exact h_ | (have e_ := (HN120.out); omega) | simpa using h_); have hx122_0 := hcc122 0 _ rfl; have hf122_0 := hfr122 0; (try simp only [Nat.add_zero] at hx122_0 hf122_0); (try rw [show ((Kd.slice 2 (Kd.int .i64))).sz = 1 from rfl, Nat.mul_one] at hx122_0); (try rw [show ((Kd.slice 2 (Kd.int .i64))).sz = 1 from rfl, Nat.mul_one] at hf122_0); have HP122 := Kd.S_seg0 HH120.out (od (by assumption)) (by have h_ : (x15_5 : Int) < ((x10_3.length : Int) : Int) := od (by assumption); first | exact h_ | (have e_ := (HN120.out); omega) | simpa using h_) (seg := [.slice Ao124 y185.length co124]) (j := 0) (show 1 ≤ 1 from by decide) (x' := y185) (Kd.M_row HO187.out) (fun _ hk => hk); (try simp only [show ((Kd.slice 2 (Kd.int .i64))).sz = 1 from rfl, Nat.mul_one, Nat.add_zero] at HP122); clear hcc122 hfr122) | ((with_reducible refine gate_store (t := 22) (p := 197) rfl ?_); refine store_event (t := 22) (p := 197) (v := ?vo_w123) (w1 := (w121.setCell ⟨go120, (x15_5 : Int).toNat, none⟩ (.slice Ao124 y185.length co124))) ?hg ?ho ?hn ?hr ?_; (case ho => rfl); (case hg => rfl); (case hn => rfl); (case hr => first | (go_simp; done) | (go_simp; rfl)); intro w123 hw; have hg : w121.grownBy w123 (some go120) := (by rw [hw]; exact HP122.2); have hp_ : Kd.S (Kd.slice 2 (Kd.int .i64)) 22 w123 w.heap.size (fun k_ => some k_ ≠ (.slice Ao26 x6_3.length co26 : Value).ownBlock ∧ some k_ ≠ (.slice (some ad182) x8_3.length co27 : Value).ownBlock ∧ some k_ ≠ (u9 : Value).ownBlock) (.slice (some ⟨go120, 0, none⟩) x10_3.length co119) y188 := (by rw [hw, Ny188.out]; exact HP122.1); clear HP122; have n0_ := am (Kd.R_over' (v := (.slice (some ⟨go120, 0, none⟩) x10_3.length co119)) (rst HO_6.out) (Kd.R_typed hraw122) (by decide) hg); have n1_ := am (Kd.R_over' (v := (.slice (some ⟨go120, 0, none⟩) x10_3.length co119)) (rst HO_8.out) (Kd.R_typed hraw122) (by decide) hg); have n2_ := am (Kd.R_over' (v := (.slice (some ⟨go120, 0, none⟩) x10_3.length co119)) (rst HO_9.out) (Kd.R_typed hraw122) (by decide) hg); have n3_ := am ((by rw [hw]; exact below_set HB.out GB120.out : Below w.heap.size w w123)); have n4_ := am (hp_); clear HO_6; clear HO_8; clear HO_9; clear HB; clear HO187; clear HH120; have HO_6 := n0_; have HO_8 := n1_; have HO_9 := n2_; have HB := n3_; have HO_10 := n4_; clear n0_ n1_ n2_ n3_ n4_; clear hg hw hp_ hraw122))
                    go_roundg k5
                    case measure => have := HK1.out; have := HJ4.out; have := HK3.out; have := HJ24.out; have := HK5.out; omega
                    case rel => exact ⟨(x6_3), (x8_3), (x9_3), (y188), (wrap64 (x11_3 + 1)), (by first | rfl | (simp; done) | (simp [*]; done)), H', ⟨by have := HK1.out; have := HJ4.out; have := HK3.out; have := HJ24.out; have := HK5.out; omega⟩, ⟨by first | exact rst HO_6.out | exact Kd.R_mono (rst HO_6.out) (by intro k_ hk_; simpa only [ob_eq] using hk_)⟩, ⟨by first | exact rst HO_8.out | exact Kd.R_mono (rst HO_8.out) (by intro k_ hk_; simpa only [ob_eq] using hk_)⟩, ⟨by first | exact rst HO_9.out | exact Kd.R_mono (rst HO_9.out) (by intro k_ hk_; simpa only [ob_eq] using hk_)⟩, ⟨by (with_reducible repeat (first | apply Kd.S_alloc | apply Kd.S_drewN | apply Kd.S_drew)); exact HO_10.out⟩, ⟨bst HB⟩⟩
                  ·
                   rw [if_neg c114] at H
                   have c114b0 : (((rd_T75 l1 (rd x8_3 x15_5)).f0) == 5) = false := beq_eq_false_iff_ne.mpr c114
                   have c114b1 : (((rd_T75 l1 (rd x8_3 x15_5)).f0) != 5) = true := bne_iff_ne.mpr c114
                   have H' := am H; clear H
                   have p182 : 0 ≤ (x15_5 : Int) := od (by assumption)
                   have q182 : x15_5 < (x8_3.length : Int) := od (by assumption)
                   obtain ⟨ad182, e182, hx182_0⟩ := Kd.at_int (Kd.R_reads' HO_8.out).2.2 x15_5 p182 q182
                   cases e182
                   replace p182 := eq_true p182; replace q182 := eq_true q182
                   have p183 : 0 ≤ ((rd x8_3 x15_5) : Int) := od (by assumption)
                   have q183 : (rd x8_3 x15_5) < (l1.length : Int) := od (by assumption)
                   obtain ⟨ad183, e183, hx183_0, hx183_1, hx183_2, hx183_3, hx183_4⟩ := at_T75 HR1.out (rd x8_3 x15_5) p183 q183
                   obtain rfl : ad146 = ad183 := (by injection e183)
                   replace hx183_0 := bc HB hx183_0
                   replace hx183_1 := bc HB hx183_1
                   replace hx183_2 := bc HB hx183_2
                   replace hx183_3 := bc HB hx183_3
                   replace hx183_4 := bc HB hx183_4
                   replace p183 := eq_true p183; replace q183 := eq_true q183
                   go_wp2
                   go_roundg k5
                   case measure => have := HK1.out; have := HJ4.out; have := HK3.out; have := HJ24.out; have := HK5.out; omega
                   case rel => exact ⟨(wrap64 (x15_5 - 1)), (by first | rfl | (simp; done) | (simp [*]; done)), H', ⟨by have := HK1.out; have := HJ4.out; have := HK3.out; have := HJ24.out; have := HK5.out; omega⟩, ⟨by first | exact rst HO_6.out | exact Kd.R_mono (rst HO_6.out) (by intro k_ hk_; simpa only [ob_eq] using hk_)⟩, ⟨by first | exact rst HO_8.out | exact Kd.R_mono (rst HO_8.out) (by intro k_ hk_; simpa only [ob_eq] using hk_)⟩, ⟨by first | exact rst HO_9.out | exact Kd.R_mono (rst HO_9.out) (by intro k_ hk_; simpa only [ob_eq] using hk_)⟩, ⟨by (with_reducible repeat (first | apply Kd.S_alloc | apply Kd.S_drewN | apply Kd.S_drew)); exact HO_10.out⟩, ⟨bst HB⟩⟩
                 ·
                  rw [if_neg c109] at H
                  have c109b0 : decide (0 ≤ x15_5) = false := decide_eq_false c109
                  clear c109
                  by_cases c125 : x15_5 < 0
                  ·
                   rw [if_pos c125] at H
                   have c125b0 : decide (x15_5 < 0) = true := decide_eq_true c125
                   clear c125
                   simp only [Option.some.injEq, Prod.mk.injEq] at H
                   obtain ⟨rfl, rfl⟩ := H
                   go_wp2
                   go_ret2
                   exact ⟨_, by first | rfl | (simp [errW_none, errW_some] <;> rfl) | (simp [*, errW_none, errW_some] <;> rfl), by (with_reducible repeat (first | apply Kd.R_alloc | apply Kd.R_drewN | apply Kd.R_drew)); exact Kd.R_mono HO_6.out (fun _ hk => trivial), by repeat (first | (with_reducible first | exact HB.out | apply below_alloc | apply pw_below_drewN | apply below_drew1) | exact HB.out)⟩
                  ·
                   rw [if_neg c125] at H
                   exact absurd (of_decide_eq_false (show decide (x15_5 ≥ 0) = false by assumption)) (by omega)
              ·
               rw [if_neg c108] at H
               have c108b0 : (((rd_T75 l1 x11_3).f0) == 6) = false := beq_eq_false_iff_ne.mpr c108
               have c108b1 : (((rd_T75 l1 x11_3).f0) != 6) = true := bne_iff_ne.mpr c108
               have H' := am H; clear H
               go_wp2
               go_roundg kj24
               case measure => have := HK1.out; have := HJ4.out; have := HK3.out; have := HJ24.out; omega
               case rel => exact ⟨(x6_3), (x8_3), (x9_3), (x10_3), (wrap64 (x11_3 + 1)), (by first | rfl | (simp; done) | (simp [*]; done)), H', ⟨by have := HK1.out; have := HJ4.out; have := HK3.out; have := HJ24.out; omega⟩, ⟨by first | exact rst HO_6.out | exact Kd.R_mono (rst HO_6.out) (by intro k_ hk_; simpa only [ob_eq] using hk_)⟩, ⟨by first | exact rst HO_8.out | exact Kd.R_mono (rst HO_8.out) (by intro k_ hk_; simpa only [ob_eq] using hk_)⟩, ⟨by first | exact rst HO_9.out | exact Kd.R_mono (rst HO_9.out) (by intro k_ hk_; simpa only [ob_eq] using hk_)⟩, ⟨by (with_reducible repeat (first | apply Kd.S_alloc | apply Kd.S_drewN | apply Kd.S_drew)); exact HO_10.out⟩, ⟨bst HB⟩⟩
        ·
         rw [if_neg c22] at H
         have c22b0 : decide (x11_3 < (x6_3.length : Int)) = false := decide_eq_false c22
         clear c22
         by_cases c136 : (x8_3.length : Int) = 0
         ·
          rw [if_pos c136] at H
          have c136b0 : ((x8_3.length : Int) == 0) = true := beq_iff_eq.mpr c136
          have c136b1 : ((x8_3.length : Int) != 0) = false := bne_eq_false_iff_eq.mpr c136
          clear c136
          simp only [Option.some.injEq, Prod.mk.injEq] at H
          obtain ⟨rfl, rfl⟩ := H
          obtain ⟨Ao137, co137, eo137⟩ := Kd.R_slice HO_6.out
          subst eo137
          obtain ⟨Ao138, co138, eo138⟩ := Kd.R_slice HO_8.out
          subst eo138
          go_wp2
          go_ret2
          exact ⟨_, by first | rfl | (simp [errW_none, errW_some] <;> rfl) | (simp [*, errW_none, errW_some] <;> rfl), by (with_reducible repeat (first | apply Kd.R_alloc | apply Kd.R_drewN | apply Kd.R_drew)); exact Kd.R_mono HO_6.out (fun _ hk => trivial), by repeat (first | (with_reducible first | exact HB.out | apply below_alloc | apply pw_below_drewN | apply below_drew1) | exact HB.out)⟩
         ·
          rw [if_neg c136] at H
          have c136b0 : ((x8_3.length : Int) == 0) = false := beq_eq_false_iff_ne.mpr c136
          have c136b1 : ((x8_3.length : Int) != 0) = true := bne_iff_ne.mpr c136
          have c136b2 : ¬ (x8_3 = []) := fun h_ => c136 (by rw [h_]; rfl)
          simp only [Option.some.injEq, Prod.mk.injEq] at H
          obtain ⟨rfl, rfl⟩ := H
          obtain ⟨Ao139, co139, eo139⟩ := Kd.R_slice HO_6.out
          subst eo139
          obtain ⟨Ao140, co140, eo140⟩ := Kd.R_slice HO_8.out
          subst eo140
          go_wp2
          go_ret2
          exact ⟨_, by first | rfl | (simp [errW_none, errW_some] <;> rfl) | (simp [*, errW_none, errW_some] <;> rfl), by (with_reducible repeat (first | apply Kd.R_alloc | apply Kd.R_drewN | apply Kd.R_drew)); exact Kd.R_mono HO_6.out (fun _ hk => trivial), by repeat (first | (with_reducible first | exact HB.out | apply below_alloc | apply pw_below_drewN | apply below_drew1) | exact HB.out)⟩
end Go.Proofs.Ytfpcfaapoeeipaa.P
namespace Go.Proofs.Ytfpcfaapoeeipaa.P
open Go.RowKit Go.Proofs.YtfpcfaapoeeipaaW.PrintWords Go.Proofs.YtfpcfaapoeeipaaW.PrintLast Go.Proofs.YtfpcfaapoeeipaaW.PrintMore
attribute [local go_sem] max2_int min2_int max_two min_two
set_option linter.unusedVariables false
set_option linter.unusedSimpArgs false
def spec_l08Is.f (k : Nat) (a0 : Int) (l1 : List (S75)) : Option (Bool) := (spec_l08Pairs.f k a0 l1).bind fun bt194 => ((spec_l01Bits.f a0).bind fun t198 => (if t198 = true then (some bt194.2) else (some false)))
set_option maxHeartbeats 8000000 in
set_option maxRecDepth 100000 in
theorem spec_l08Is.calls (k : Nat) (a0 : Int) (A1 : Option Addr) (c1 : Nat) (l1 : List (S75)) (r : Bool) (w : World) (hr1 : Kd.C k75 w A1 l1.length l1) (hc1 : l1.length ≤ c1) (h : spec_l08Is.f k a0 l1 = some r) :
  Calls Try.prog 99 #[.int .i64 a0, .slice A1 l1.length c1] w fun e w' => e = .returned (.bool r) ∧ Below w.heap.size w w' := by
 have HR1 := am hr1
 have HC1 := am hc1
 clear hr1 hc1
 have HB := am (Below.refl w.heap.size w)
 have H : ((spec_l08Pairs.f k a0 l1).bind fun bt194 => ((spec_l01Bits.f a0).bind fun t198 => (if t198 = true then (some bt194.2) else (some false)))) = some r := h
 clear h
 replace H := Option.bind_eq_some_iff.mp H
 obtain ⟨⟨t194, t195⟩, A30, H⟩ := H
 replace H : ((spec_l01Bits.f a0).bind fun t198 => (if t198 = true then (some t195) else (some false))) = some r := H
 have A3 := am A30
 clear A30
 replace H := Option.bind_eq_some_iff.mp H
 obtain ⟨t198, A40, H⟩ := H
 replace H : (if t198 = true then (some t195) else (some false)) = some r := H
 have A4 := am A40
 clear A40
 by_cases c5 : t198 = true
 ·
  subst c5
  have H1 : (some t195) = some r := by rw [if_pos rfl] at H; exact H
  clear H
  have H := H1
  clear H1
  obtain rfl := Option.some.inj H
  go_enter Try.func99, Try.ntmps99
  go_wp2_with (first | ((with_reducible refine gate_callee (f := 101) rfl ?_); refine goesL_ (some 10) rfl rfl Try.func101 (by kernel_rfl) rfl #[.int .i64 a0, .slice A1 l1.length c1] rfl (by (try simp only [List.map_toArray, List.map_cons, List.map_nil]); first | done | rfl | (simp only [List.length_drop, List.length_take]; rfl)) ?_; (with_reducible refine (spec_l08Pairs.calls k a0 _ _ l1 t194 t195 _ ?side1 ?side2 A3.out).mono ?_); (case side1 => repeat (first | exact HR1.out | (with_reducible refine Kd.C_alloc ?_ _) | (with_reducible refine Kd.C_drewN ?_ _) | (with_reducible refine Kd.C_drew ?_))); (case side2 => exact HC1.out); rintro e w6 ⟨v196, rfl, ho0, hb⟩; refine ⟨_, rfl, ?_⟩; have n0_ := am (Kd.R_lower ho0 (below_size (bst HB))); have n1_ := am (below_step (bst HB) hb); clear HB; have HO197 := n0_; have HB := n1_; clear n0_ n1_; (try clear hb); (try clear hb2); (try clear hk); (try clear hi); (try clear ho0)) | ((with_reducible refine gate_callee (f := 121) rfl ?_); refine goesL_ (some 14) rfl rfl Try.func121 (by kernel_rfl) rfl #[.int .i64 a0] rfl (by (try simp only [List.map_toArray, List.map_cons, List.map_nil]); first | done | rfl | (simp only [List.length_drop, List.length_take]; rfl)) ?_; (with_reducible refine (spec_l01Bits.calls a0 true _ A4.out).mono ?_); rintro e w' ⟨rfl, ⟨nd, rfl⟩⟩; refine ⟨_, rfl, ?_⟩))
  go_ret
  exact ⟨by first | rfl | (simp [errW_none, errW_some] <;> rfl) | (simp [*, errW_none, errW_some] <;> rfl), by repeat (first | (with_reducible first | exact HB.out | apply below_alloc | apply pw_below_drewN | apply below_drew1) | exact HB.out)⟩
 ·
  replace c5 := Bool.eq_false_iff.mpr c5
  subst c5
  have H1 : (some false) = some r := by rw [if_neg (show ¬ (false = true) by decide)] at H; exact H
  clear H
  have H := H1
  clear H1
  obtain rfl := Option.some.inj H
  go_enter Try.func99, Try.ntmps99
  go_wp2_with (first | ((with_reducible refine gate_callee (f := 101) rfl ?_); refine goesL_ (some 10) rfl rfl Try.func101 (by kernel_rfl) rfl #[.int .i64 a0, .slice A1 l1.length c1] rfl (by (try simp only [List.map_toArray, List.map_cons, List.map_nil]); first | done | rfl | (simp only [List.length_drop, List.length_take]; rfl)) ?_; (with_reducible refine (spec_l08Pairs.calls k a0 _ _ l1 t194 t195 _ ?side1 ?side2 A3.out).mono ?_); (case side1 => repeat (first | exact HR1.out | (with_reducible refine Kd.C_alloc ?_ _) | (with_reducible refine Kd.C_drewN ?_ _) | (with_reducible refine Kd.C_drew ?_))); (case side2 => exact HC1.out); rintro e w7 ⟨v196, rfl, ho0, hb⟩; refine ⟨_, rfl, ?_⟩; have n0_ := am (Kd.R_lower ho0 (below_size (bst HB))); have n1_ := am (below_step (bst HB) hb); clear HB; have HO197 := n0_; have HB := n1_; clear n0_ n1_; (try clear hb); (try clear hb2); (try clear hk); (try clear hi); (try clear ho0)) | ((with_reducible refine gate_callee (f := 121) rfl ?_); refine goesL_ (some 14) rfl rfl Try.func121 (by kernel_rfl) rfl #[.int .i64 a0] rfl (by (try simp only [List.map_toArray, List.map_cons, List.map_nil]); first | done | rfl | (simp only [List.length_drop, List.length_take]; rfl)) ?_; (with_reducible refine (spec_l01Bits.calls a0 false _ A4.out).mono ?_); rintro e w' ⟨rfl, ⟨nd, rfl⟩⟩; refine ⟨_, rfl, ?_⟩))
  go_ret
  exact ⟨by first | rfl | (simp [errW_none, errW_some] <;> rfl) | (simp [*, errW_none, errW_some] <;> rfl), by repeat (first | (with_reducible first | exact HB.out | apply below_alloc | apply pw_below_drewN | apply below_drew1) | exact HB.out)⟩
end Go.Proofs.Ytfpcfaapoeeipaa.P
namespace Go.Proofs.Ytfpcfaapoeeipaa.P
open Go.RowKit Go.Proofs.YtfpcfaapoeeipaaW.PrintWords Go.Proofs.YtfpcfaapoeeipaaW.PrintLast Go.Proofs.YtfpcfaapoeeipaaW.PrintMore
attribute [local go_sem] max2_int min2_int max_two min_two
set_option linter.unusedVariables false
set_option linter.unusedSimpArgs false
def spec_l01Do.f (a0 : Int) (a1 : Int) (a2 : Int) (a3 : Int) : Option (Int) := if 0 ≤ (IntKind.u64.wrap (a1)) then (if 0 ≤ (IntKind.u64.wrap (wrap64 (a1 - 1))) then ((spec_l01Signed.f a1 a2).bind fun t213 => ((spec_l01Signed.f a1 a3).bind fun t214 => (if a1 = 0 then (none) else (if a0 = 0 then ((spec_l01Wrap.f a1 (wrap64 (a2 + a3))).bind fun t215 => (some t215)) else (if a0 = 1 then ((spec_l01Wrap.f a1 (wrap64 (a2 - a3))).bind fun t216 => (some t216)) else (if a0 = 2 then ((spec_l01Wrap.f a1 (wrap64 (a2 * a3))).bind fun t217 => (some t217)) else (if a0 = 3 then (some (Go.bits .and .i64 a2 a3)) else (if a0 = 4 then (some (Go.bits .or .i64 a2 a3)) else (if a0 = 5 then (some (Go.bits .xor .i64 a2 a3)) else (if a0 = 6 then ((spec_l00Min.f a2 a3).bind fun t218 => (some t218)) else (if a0 = 7 then ((spec_l00Max.f a2 a3).bind fun t219 => (some t219)) else (if a0 = 8 then ((spec_l00Min.f t213 t214).bind fun t220 => ((spec_l01Wrap.f a1 t220).bind fun t221 => (some t221))) else (if a0 = 9 then ((spec_l00Max.f t213 t214).bind fun t222 => ((spec_l01Wrap.f a1 t222).bind fun t223 => (some t223))) else (if a0 = 10 then ((spec_l00Min.f (wrap64 (a2 + a3)) (wrap64 ((shl .i64 1 (IntKind.u64.wrap (a1))) - 1))).bind fun t224 => (some t224)) else (if a0 = 11 then ((spec_l01Between.f (wrap64 (t213 + t214)) (wrap64 (-(shl .i64 1 (IntKind.u64.wrap (wrap64 (a1 - 1)))))) (wrap64 ((shl .i64 1 (IntKind.u64.wrap (wrap64 (a1 - 1)))) - 1))).bind fun t225 => ((spec_l01Wrap.f a1 t225).bind fun t226 => (some t226))) else (if a0 = 12 then ((spec_l00Max.f (wrap64 (a2 - a3)) 0).bind fun t227 => (some t227)) else (if a0 = 13 then ((spec_l01Between.f (wrap64 (t213 - t214)) (wrap64 (-(shl .i64 1 (IntKind.u64.wrap (wrap64 (a1 - 1)))))) (wrap64 ((shl .i64 1 (IntKind.u64.wrap (wrap64 (a1 - 1)))) - 1))).bind fun t228 => ((spec_l01Wrap.f a1 t228).bind fun t229 => (some t229))) else (if a0 = 14 then (some (wrap64 (Int.tdiv (wrap64 ((wrap64 (a2 + a3)) + 1)) 2))) else (if a0 = 15 then (if 0 ≤ (IntKind.u64.wrap (Int.tmod a3 a1)) then ((spec_l01Wrap.f a1 (shl .i64 a2 (IntKind.u64.wrap (Int.tmod a3 a1)))).bind fun t230 => (some t230)) else (none)) else (if a0 = 16 then (if 0 ≤ (IntKind.u64.wrap (Int.tmod a3 a1)) then (some (shr .i64 a2 (IntKind.u64.wrap (Int.tmod a3 a1)))) else (none)) else (if 0 ≤ (IntKind.u64.wrap (Int.tmod a3 a1)) then ((spec_l01Wrap.f a1 (shr .i64 t213 (IntKind.u64.wrap (Int.tmod a3 a1)))).bind fun t231 => (some t231)) else (none)))))))))))))))))))))) else (none)) else (none)
set_option maxHeartbeats 8000000 in
set_option maxRecDepth 100000 in
theorem spec_l01Do.calls (a0 : Int) (a1 : Int) (a2 : Int) (a3 : Int) (r : Int) (w : World) (h : spec_l01Do.f a0 a1 a2 a3 = some r) :
  Calls Try.prog 102 #[.int .i64 a0, .int .i64 a1, .int .i64 a2, .int .i64 a3] w fun e w' => e = .returned (.int .i64 r) ∧ Drawn0 w w' := by
 have H : (if 0 ≤ (IntKind.u64.wrap (a1)) then (if 0 ≤ (IntKind.u64.wrap (wrap64 (a1 - 1))) then ((spec_l01Signed.f a1 a2).bind fun t213 => ((spec_l01Signed.f a1 a3).bind fun t214 => (if a1 = 0 then (none) else (if a0 = 0 then ((spec_l01Wrap.f a1 (wrap64 (a2 + a3))).bind fun t215 => (some t215)) else (if a0 = 1 then ((spec_l01Wrap.f a1 (wrap64 (a2 - a3))).bind fun t216 => (some t216)) else (if a0 = 2 then ((spec_l01Wrap.f a1 (wrap64 (a2 * a3))).bind fun t217 => (some t217)) else (if a0 = 3 then (some (Go.bits .and .i64 a2 a3)) else (if a0 = 4 then (some (Go.bits .or .i64 a2 a3)) else (if a0 = 5 then (some (Go.bits .xor .i64 a2 a3)) else (if a0 = 6 then ((spec_l00Min.f a2 a3).bind fun t218 => (some t218)) else (if a0 = 7 then ((spec_l00Max.f a2 a3).bind fun t219 => (some t219)) else (if a0 = 8 then ((spec_l00Min.f t213 t214).bind fun t220 => ((spec_l01Wrap.f a1 t220).bind fun t221 => (some t221))) else (if a0 = 9 then ((spec_l00Max.f t213 t214).bind fun t222 => ((spec_l01Wrap.f a1 t222).bind fun t223 => (some t223))) else (if a0 = 10 then ((spec_l00Min.f (wrap64 (a2 + a3)) (wrap64 ((shl .i64 1 (IntKind.u64.wrap (a1))) - 1))).bind fun t224 => (some t224)) else (if a0 = 11 then ((spec_l01Between.f (wrap64 (t213 + t214)) (wrap64 (-(shl .i64 1 (IntKind.u64.wrap (wrap64 (a1 - 1)))))) (wrap64 ((shl .i64 1 (IntKind.u64.wrap (wrap64 (a1 - 1)))) - 1))).bind fun t225 => ((spec_l01Wrap.f a1 t225).bind fun t226 => (some t226))) else (if a0 = 12 then ((spec_l00Max.f (wrap64 (a2 - a3)) 0).bind fun t227 => (some t227)) else (if a0 = 13 then ((spec_l01Between.f (wrap64 (t213 - t214)) (wrap64 (-(shl .i64 1 (IntKind.u64.wrap (wrap64 (a1 - 1)))))) (wrap64 ((shl .i64 1 (IntKind.u64.wrap (wrap64 (a1 - 1)))) - 1))).bind fun t228 => ((spec_l01Wrap.f a1 t228).bind fun t229 => (some t229))) else (if a0 = 14 then (some (wrap64 (Int.tdiv (wrap64 ((wrap64 (a2 + a3)) + 1)) 2))) else (if a0 = 15 then (if 0 ≤ (IntKind.u64.wrap (Int.tmod a3 a1)) then ((spec_l01Wrap.f a1 (shl .i64 a2 (IntKind.u64.wrap (Int.tmod a3 a1)))).bind fun t230 => (some t230)) else (none)) else (if a0 = 16 then (if 0 ≤ (IntKind.u64.wrap (Int.tmod a3 a1)) then (some (shr .i64 a2 (IntKind.u64.wrap (Int.tmod a3 a1)))) else (none)) else (if 0 ≤ (IntKind.u64.wrap (Int.tmod a3 a1)) then ((spec_l01Wrap.f a1 (shr .i64 t213 (IntKind.u64.wrap (Int.tmod a3 a1)))).bind fun t231 => (some t231)) else (none)))))))))))))))))))))) else (none)) else (none)) = some r := h
 clear h
 obtain ⟨ji5, hji5⟩ : ∃ j_ : Int, (IntKind.u64.wrap (a1)) = j_ := ⟨_, rfl⟩
 replace H : (if 0 ≤ (ji5) then (if 0 ≤ (IntKind.u64.wrap (wrap64 (a1 - 1))) then ((spec_l01Signed.f a1 a2).bind fun t213 => ((spec_l01Signed.f a1 a3).bind fun t214 => (if a1 = 0 then (none) else (if a0 = 0 then ((spec_l01Wrap.f a1 (wrap64 (a2 + a3))).bind fun t215 => (some t215)) else (if a0 = 1 then ((spec_l01Wrap.f a1 (wrap64 (a2 - a3))).bind fun t216 => (some t216)) else (if a0 = 2 then ((spec_l01Wrap.f a1 (wrap64 (a2 * a3))).bind fun t217 => (some t217)) else (if a0 = 3 then (some (Go.bits .and .i64 a2 a3)) else (if a0 = 4 then (some (Go.bits .or .i64 a2 a3)) else (if a0 = 5 then (some (Go.bits .xor .i64 a2 a3)) else (if a0 = 6 then ((spec_l00Min.f a2 a3).bind fun t218 => (some t218)) else (if a0 = 7 then ((spec_l00Max.f a2 a3).bind fun t219 => (some t219)) else (if a0 = 8 then ((spec_l00Min.f t213 t214).bind fun t220 => ((spec_l01Wrap.f a1 t220).bind fun t221 => (some t221))) else (if a0 = 9 then ((spec_l00Max.f t213 t214).bind fun t222 => ((spec_l01Wrap.f a1 t222).bind fun t223 => (some t223))) else (if a0 = 10 then ((spec_l00Min.f (wrap64 (a2 + a3)) (wrap64 ((shl .i64 1 (ji5)) - 1))).bind fun t224 => (some t224)) else (if a0 = 11 then ((spec_l01Between.f (wrap64 (t213 + t214)) (wrap64 (-(shl .i64 1 (IntKind.u64.wrap (wrap64 (a1 - 1)))))) (wrap64 ((shl .i64 1 (IntKind.u64.wrap (wrap64 (a1 - 1)))) - 1))).bind fun t225 => ((spec_l01Wrap.f a1 t225).bind fun t226 => (some t226))) else (if a0 = 12 then ((spec_l00Max.f (wrap64 (a2 - a3)) 0).bind fun t227 => (some t227)) else (if a0 = 13 then ((spec_l01Between.f (wrap64 (t213 - t214)) (wrap64 (-(shl .i64 1 (IntKind.u64.wrap (wrap64 (a1 - 1)))))) (wrap64 ((shl .i64 1 (IntKind.u64.wrap (wrap64 (a1 - 1)))) - 1))).bind fun t228 => ((spec_l01Wrap.f a1 t228).bind fun t229 => (some t229))) else (if a0 = 14 then (some (wrap64 (Int.tdiv (wrap64 ((wrap64 (a2 + a3)) + 1)) 2))) else (if a0 = 15 then (if 0 ≤ (IntKind.u64.wrap (Int.tmod a3 a1)) then ((spec_l01Wrap.f a1 (shl .i64 a2 (IntKind.u64.wrap (Int.tmod a3 a1)))).bind fun t230 => (some t230)) else (none)) else (if a0 = 16 then (if 0 ≤ (IntKind.u64.wrap (Int.tmod a3 a1)) then (some (shr .i64 a2 (IntKind.u64.wrap (Int.tmod a3 a1)))) else (none)) else (if 0 ≤ (IntKind.u64.wrap (Int.tmod a3 a1)) then ((spec_l01Wrap.f a1 (shr .i64 t213 (IntKind.u64.wrap (Int.tmod a3 a1)))).bind fun t231 => (some t231)) else (none)))))))))))))))))))))) else (none)) else (none)) = some r := by first | (rw [hji5] at H; exact H) | (simp only [hji5] at H ⊢; exact H)
 replace H := ifp H; obtain ⟨c6, H⟩ := H
 have c6b0 := eq_true c6
 have c6b1 : decide (0 ≤ (ji5)) = true := decide_eq_true c6
 clear c6
 obtain ⟨ji7, hji7⟩ : ∃ j_ : Int, (shl .i64 1 (ji5)) = j_ := ⟨_, rfl⟩
 replace H : (if 0 ≤ (IntKind.u64.wrap (wrap64 (a1 - 1))) then ((spec_l01Signed.f a1 a2).bind fun t213 => ((spec_l01Signed.f a1 a3).bind fun t214 => (if a1 = 0 then (none) else (if a0 = 0 then ((spec_l01Wrap.f a1 (wrap64 (a2 + a3))).bind fun t215 => (some t215)) else (if a0 = 1 then ((spec_l01Wrap.f a1 (wrap64 (a2 - a3))).bind fun t216 => (some t216)) else (if a0 = 2 then ((spec_l01Wrap.f a1 (wrap64 (a2 * a3))).bind fun t217 => (some t217)) else (if a0 = 3 then (some (Go.bits .and .i64 a2 a3)) else (if a0 = 4 then (some (Go.bits .or .i64 a2 a3)) else (if a0 = 5 then (some (Go.bits .xor .i64 a2 a3)) else (if a0 = 6 then ((spec_l00Min.f a2 a3).bind fun t218 => (some t218)) else (if a0 = 7 then ((spec_l00Max.f a2 a3).bind fun t219 => (some t219)) else (if a0 = 8 then ((spec_l00Min.f t213 t214).bind fun t220 => ((spec_l01Wrap.f a1 t220).bind fun t221 => (some t221))) else (if a0 = 9 then ((spec_l00Max.f t213 t214).bind fun t222 => ((spec_l01Wrap.f a1 t222).bind fun t223 => (some t223))) else (if a0 = 10 then ((spec_l00Min.f (wrap64 (a2 + a3)) (wrap64 ((ji7) - 1))).bind fun t224 => (some t224)) else (if a0 = 11 then ((spec_l01Between.f (wrap64 (t213 + t214)) (wrap64 (-(shl .i64 1 (IntKind.u64.wrap (wrap64 (a1 - 1)))))) (wrap64 ((shl .i64 1 (IntKind.u64.wrap (wrap64 (a1 - 1)))) - 1))).bind fun t225 => ((spec_l01Wrap.f a1 t225).bind fun t226 => (some t226))) else (if a0 = 12 then ((spec_l00Max.f (wrap64 (a2 - a3)) 0).bind fun t227 => (some t227)) else (if a0 = 13 then ((spec_l01Between.f (wrap64 (t213 - t214)) (wrap64 (-(shl .i64 1 (IntKind.u64.wrap (wrap64 (a1 - 1)))))) (wrap64 ((shl .i64 1 (IntKind.u64.wrap (wrap64 (a1 - 1)))) - 1))).bind fun t228 => ((spec_l01Wrap.f a1 t228).bind fun t229 => (some t229))) else (if a0 = 14 then (some (wrap64 (Int.tdiv (wrap64 ((wrap64 (a2 + a3)) + 1)) 2))) else (if a0 = 15 then (if 0 ≤ (IntKind.u64.wrap (Int.tmod a3 a1)) then ((spec_l01Wrap.f a1 (shl .i64 a2 (IntKind.u64.wrap (Int.tmod a3 a1)))).bind fun t230 => (some t230)) else (none)) else (if a0 = 16 then (if 0 ≤ (IntKind.u64.wrap (Int.tmod a3 a1)) then (some (shr .i64 a2 (IntKind.u64.wrap (Int.tmod a3 a1)))) else (none)) else (if 0 ≤ (IntKind.u64.wrap (Int.tmod a3 a1)) then ((spec_l01Wrap.f a1 (shr .i64 t213 (IntKind.u64.wrap (Int.tmod a3 a1)))).bind fun t231 => (some t231)) else (none)))))))))))))))))))))) else (none)) = some r := by first | (rw [hji7] at H; exact H) | (simp only [hji7] at H ⊢; exact H)
 have hji7_ : (IntKind.i64.wrap (1 * 2 ^ min (ji5).toNat 64)) = ji7 := hji7
 have hji7z : (ji5) ≤ 64 → (IntKind.i64.wrap (1 * 2 ^ (ji5).toNat)) = ji7 := shl_small hji7
 have hji7u : (IntKind.i64.wrap (2 ^ min (ji5).toNat 64)) = ji7 := by have h_ := hji7_; rw [Int.one_mul] at h_; exact h_
 have hji7v : (ji5) ≤ 64 → (IntKind.i64.wrap (2 ^ (ji5).toNat)) = ji7 := fun hle_ => by have h_ := hji7z hle_; rw [Int.one_mul] at h_; exact h_
 have hji7y : (wrap64 (1 * 2 ^ min (ji5).toNat 64)) = ji7 := (i64_w _).symm.trans hji7_
 have hji7x : (ji5) ≤ 64 → (wrap64 (1 * 2 ^ (ji5).toNat)) = ji7 := fun h_ => (i64_w _).symm.trans (hji7z h_)
 obtain ⟨ji8, hji8⟩ : ∃ j_ : Int, (IntKind.u64.wrap (wrap64 (a1 - 1))) = j_ := ⟨_, rfl⟩
 replace H : (if 0 ≤ (ji8) then ((spec_l01Signed.f a1 a2).bind fun t213 => ((spec_l01Signed.f a1 a3).bind fun t214 => (if a1 = 0 then (none) else (if a0 = 0 then ((spec_l01Wrap.f a1 (wrap64 (a2 + a3))).bind fun t215 => (some t215)) else (if a0 = 1 then ((spec_l01Wrap.f a1 (wrap64 (a2 - a3))).bind fun t216 => (some t216)) else (if a0 = 2 then ((spec_l01Wrap.f a1 (wrap64 (a2 * a3))).bind fun t217 => (some t217)) else (if a0 = 3 then (some (Go.bits .and .i64 a2 a3)) else (if a0 = 4 then (some (Go.bits .or .i64 a2 a3)) else (if a0 = 5 then (some (Go.bits .xor .i64 a2 a3)) else (if a0 = 6 then ((spec_l00Min.f a2 a3).bind fun t218 => (some t218)) else (if a0 = 7 then ((spec_l00Max.f a2 a3).bind fun t219 => (some t219)) else (if a0 = 8 then ((spec_l00Min.f t213 t214).bind fun t220 => ((spec_l01Wrap.f a1 t220).bind fun t221 => (some t221))) else (if a0 = 9 then ((spec_l00Max.f t213 t214).bind fun t222 => ((spec_l01Wrap.f a1 t222).bind fun t223 => (some t223))) else (if a0 = 10 then ((spec_l00Min.f (wrap64 (a2 + a3)) (wrap64 ((ji7) - 1))).bind fun t224 => (some t224)) else (if a0 = 11 then ((spec_l01Between.f (wrap64 (t213 + t214)) (wrap64 (-(shl .i64 1 (ji8)))) (wrap64 ((shl .i64 1 (ji8)) - 1))).bind fun t225 => ((spec_l01Wrap.f a1 t225).bind fun t226 => (some t226))) else (if a0 = 12 then ((spec_l00Max.f (wrap64 (a2 - a3)) 0).bind fun t227 => (some t227)) else (if a0 = 13 then ((spec_l01Between.f (wrap64 (t213 - t214)) (wrap64 (-(shl .i64 1 (ji8)))) (wrap64 ((shl .i64 1 (ji8)) - 1))).bind fun t228 => ((spec_l01Wrap.f a1 t228).bind fun t229 => (some t229))) else (if a0 = 14 then (some (wrap64 (Int.tdiv (wrap64 ((wrap64 (a2 + a3)) + 1)) 2))) else (if a0 = 15 then (if 0 ≤ (IntKind.u64.wrap (Int.tmod a3 a1)) then ((spec_l01Wrap.f a1 (shl .i64 a2 (IntKind.u64.wrap (Int.tmod a3 a1)))).bind fun t230 => (some t230)) else (none)) else (if a0 = 16 then (if 0 ≤ (IntKind.u64.wrap (Int.tmod a3 a1)) then (some (shr .i64 a2 (IntKind.u64.wrap (Int.tmod a3 a1)))) else (none)) else (if 0 ≤ (IntKind.u64.wrap (Int.tmod a3 a1)) then ((spec_l01Wrap.f a1 (shr .i64 t213 (IntKind.u64.wrap (Int.tmod a3 a1)))).bind fun t231 => (some t231)) else (none)))))))))))))))))))))) else (none)) = some r := by first | (rw [hji8] at H; exact H) | (simp only [hji8] at H ⊢; exact H)
 replace H := ifp H; obtain ⟨c9, H⟩ := H
 have c9b0 := eq_true c9
 have c9b1 : decide (0 ≤ (ji8)) = true := decide_eq_true c9
 clear c9
 obtain ⟨ji10, hji10⟩ : ∃ j_ : Int, (shl .i64 1 (ji8)) = j_ := ⟨_, rfl⟩
 replace H : ((spec_l01Signed.f a1 a2).bind fun t213 => ((spec_l01Signed.f a1 a3).bind fun t214 => (if a1 = 0 then (none) else (if a0 = 0 then ((spec_l01Wrap.f a1 (wrap64 (a2 + a3))).bind fun t215 => (some t215)) else (if a0 = 1 then ((spec_l01Wrap.f a1 (wrap64 (a2 - a3))).bind fun t216 => (some t216)) else (if a0 = 2 then ((spec_l01Wrap.f a1 (wrap64 (a2 * a3))).bind fun t217 => (some t217)) else (if a0 = 3 then (some (Go.bits .and .i64 a2 a3)) else (if a0 = 4 then (some (Go.bits .or .i64 a2 a3)) else (if a0 = 5 then (some (Go.bits .xor .i64 a2 a3)) else (if a0 = 6 then ((spec_l00Min.f a2 a3).bind fun t218 => (some t218)) else (if a0 = 7 then ((spec_l00Max.f a2 a3).bind fun t219 => (some t219)) else (if a0 = 8 then ((spec_l00Min.f t213 t214).bind fun t220 => ((spec_l01Wrap.f a1 t220).bind fun t221 => (some t221))) else (if a0 = 9 then ((spec_l00Max.f t213 t214).bind fun t222 => ((spec_l01Wrap.f a1 t222).bind fun t223 => (some t223))) else (if a0 = 10 then ((spec_l00Min.f (wrap64 (a2 + a3)) (wrap64 ((ji7) - 1))).bind fun t224 => (some t224)) else (if a0 = 11 then ((spec_l01Between.f (wrap64 (t213 + t214)) (wrap64 (-(ji10))) (wrap64 ((ji10) - 1))).bind fun t225 => ((spec_l01Wrap.f a1 t225).bind fun t226 => (some t226))) else (if a0 = 12 then ((spec_l00Max.f (wrap64 (a2 - a3)) 0).bind fun t227 => (some t227)) else (if a0 = 13 then ((spec_l01Between.f (wrap64 (t213 - t214)) (wrap64 (-(ji10))) (wrap64 ((ji10) - 1))).bind fun t228 => ((spec_l01Wrap.f a1 t228).bind fun t229 => (some t229))) else (if a0 = 14 then (some (wrap64 (Int.tdiv (wrap64 ((wrap64 (a2 + a3)) + 1)) 2))) else (if a0 = 15 then (if 0 ≤ (IntKind.u64.wrap (Int.tmod a3 a1)) then ((spec_l01Wrap.f a1 (shl .i64 a2 (IntKind.u64.wrap (Int.tmod a3 a1)))).bind fun t230 => (some t230)) else (none)) else (if a0 = 16 then (if 0 ≤ (IntKind.u64.wrap (Int.tmod a3 a1)) then (some (shr .i64 a2 (IntKind.u64.wrap (Int.tmod a3 a1)))) else (none)) else (if 0 ≤ (IntKind.u64.wrap (Int.tmod a3 a1)) then ((spec_l01Wrap.f a1 (shr .i64 t213 (IntKind.u64.wrap (Int.tmod a3 a1)))).bind fun t231 => (some t231)) else (none)))))))))))))))))))))) = some r := by first | (rw [hji10] at H; exact H) | (simp only [hji10] at H ⊢; exact H)
 have hji10_ : (IntKind.i64.wrap (1 * 2 ^ min (ji8).toNat 64)) = ji10 := hji10
 have hji10z : (ji8) ≤ 64 → (IntKind.i64.wrap (1 * 2 ^ (ji8).toNat)) = ji10 := shl_small hji10
 have hji10u : (IntKind.i64.wrap (2 ^ min (ji8).toNat 64)) = ji10 := by have h_ := hji10_; rw [Int.one_mul] at h_; exact h_
 have hji10v : (ji8) ≤ 64 → (IntKind.i64.wrap (2 ^ (ji8).toNat)) = ji10 := fun hle_ => by have h_ := hji10z hle_; rw [Int.one_mul] at h_; exact h_
 have hji10y : (wrap64 (1 * 2 ^ min (ji8).toNat 64)) = ji10 := (i64_w _).symm.trans hji10_
 have hji10x : (ji8) ≤ 64 → (wrap64 (1 * 2 ^ (ji8).toNat)) = ji10 := fun h_ => (i64_w _).symm.trans (hji10z h_)
 replace H := Option.bind_eq_some_iff.mp H
 obtain ⟨t213, A110, H⟩ := H
 replace H : ((spec_l01Signed.f a1 a3).bind fun t214 => (if a1 = 0 then (none) else (if a0 = 0 then ((spec_l01Wrap.f a1 (wrap64 (a2 + a3))).bind fun t215 => (some t215)) else (if a0 = 1 then ((spec_l01Wrap.f a1 (wrap64 (a2 - a3))).bind fun t216 => (some t216)) else (if a0 = 2 then ((spec_l01Wrap.f a1 (wrap64 (a2 * a3))).bind fun t217 => (some t217)) else (if a0 = 3 then (some (Go.bits .and .i64 a2 a3)) else (if a0 = 4 then (some (Go.bits .or .i64 a2 a3)) else (if a0 = 5 then (some (Go.bits .xor .i64 a2 a3)) else (if a0 = 6 then ((spec_l00Min.f a2 a3).bind fun t218 => (some t218)) else (if a0 = 7 then ((spec_l00Max.f a2 a3).bind fun t219 => (some t219)) else (if a0 = 8 then ((spec_l00Min.f t213 t214).bind fun t220 => ((spec_l01Wrap.f a1 t220).bind fun t221 => (some t221))) else (if a0 = 9 then ((spec_l00Max.f t213 t214).bind fun t222 => ((spec_l01Wrap.f a1 t222).bind fun t223 => (some t223))) else (if a0 = 10 then ((spec_l00Min.f (wrap64 (a2 + a3)) (wrap64 ((ji7) - 1))).bind fun t224 => (some t224)) else (if a0 = 11 then ((spec_l01Between.f (wrap64 (t213 + t214)) (wrap64 (-(ji10))) (wrap64 ((ji10) - 1))).bind fun t225 => ((spec_l01Wrap.f a1 t225).bind fun t226 => (some t226))) else (if a0 = 12 then ((spec_l00Max.f (wrap64 (a2 - a3)) 0).bind fun t227 => (some t227)) else (if a0 = 13 then ((spec_l01Between.f (wrap64 (t213 - t214)) (wrap64 (-(ji10))) (wrap64 ((ji10) - 1))).bind fun t228 => ((spec_l01Wrap.f a1 t228).bind fun t229 => (some t229))) else (if a0 = 14 then (some (wrap64 (Int.tdiv (wrap64 ((wrap64 (a2 + a3)) + 1)) 2))) else (if a0 = 15 then (if 0 ≤ (IntKind.u64.wrap (Int.tmod a3 a1)) then ((spec_l01Wrap.f a1 (shl .i64 a2 (IntKind.u64.wrap (Int.tmod a3 a1)))).bind fun t230 => (some t230)) else (none)) else (if a0 = 16 then (if 0 ≤ (IntKind.u64.wrap (Int.tmod a3 a1)) then (some (shr .i64 a2 (IntKind.u64.wrap (Int.tmod a3 a1)))) else (none)) else (if 0 ≤ (IntKind.u64.wrap (Int.tmod a3 a1)) then ((spec_l01Wrap.f a1 (shr .i64 t213 (IntKind.u64.wrap (Int.tmod a3 a1)))).bind fun t231 => (some t231)) else (none))))))))))))))))))))) = some r := H
 have A11 := am A110
 clear A110
 replace H := Option.bind_eq_some_iff.mp H
 obtain ⟨t214, A120, H⟩ := H
 replace H : (if a1 = 0 then (none) else (if a0 = 0 then ((spec_l01Wrap.f a1 (wrap64 (a2 + a3))).bind fun t215 => (some t215)) else (if a0 = 1 then ((spec_l01Wrap.f a1 (wrap64 (a2 - a3))).bind fun t216 => (some t216)) else (if a0 = 2 then ((spec_l01Wrap.f a1 (wrap64 (a2 * a3))).bind fun t217 => (some t217)) else (if a0 = 3 then (some (Go.bits .and .i64 a2 a3)) else (if a0 = 4 then (some (Go.bits .or .i64 a2 a3)) else (if a0 = 5 then (some (Go.bits .xor .i64 a2 a3)) else (if a0 = 6 then ((spec_l00Min.f a2 a3).bind fun t218 => (some t218)) else (if a0 = 7 then ((spec_l00Max.f a2 a3).bind fun t219 => (some t219)) else (if a0 = 8 then ((spec_l00Min.f t213 t214).bind fun t220 => ((spec_l01Wrap.f a1 t220).bind fun t221 => (some t221))) else (if a0 = 9 then ((spec_l00Max.f t213 t214).bind fun t222 => ((spec_l01Wrap.f a1 t222).bind fun t223 => (some t223))) else (if a0 = 10 then ((spec_l00Min.f (wrap64 (a2 + a3)) (wrap64 ((ji7) - 1))).bind fun t224 => (some t224)) else (if a0 = 11 then ((spec_l01Between.f (wrap64 (t213 + t214)) (wrap64 (-(ji10))) (wrap64 ((ji10) - 1))).bind fun t225 => ((spec_l01Wrap.f a1 t225).bind fun t226 => (some t226))) else (if a0 = 12 then ((spec_l00Max.f (wrap64 (a2 - a3)) 0).bind fun t227 => (some t227)) else (if a0 = 13 then ((spec_l01Between.f (wrap64 (t213 - t214)) (wrap64 (-(ji10))) (wrap64 ((ji10) - 1))).bind fun t228 => ((spec_l01Wrap.f a1 t228).bind fun t229 => (some t229))) else (if a0 = 14 then (some (wrap64 (Int.tdiv (wrap64 ((wrap64 (a2 + a3)) + 1)) 2))) else (if a0 = 15 then (if 0 ≤ (IntKind.u64.wrap (Int.tmod a3 a1)) then ((spec_l01Wrap.f a1 (shl .i64 a2 (IntKind.u64.wrap (Int.tmod a3 a1)))).bind fun t230 => (some t230)) else (none)) else (if a0 = 16 then (if 0 ≤ (IntKind.u64.wrap (Int.tmod a3 a1)) then (some (shr .i64 a2 (IntKind.u64.wrap (Int.tmod a3 a1)))) else (none)) else (if 0 ≤ (IntKind.u64.wrap (Int.tmod a3 a1)) then ((spec_l01Wrap.f a1 (shr .i64 t213 (IntKind.u64.wrap (Int.tmod a3 a1)))).bind fun t231 => (some t231)) else (none)))))))))))))))))))) = some r := H
 have A12 := am A120
 clear A120
 replace H := ifq H; obtain ⟨c13, H⟩ := H
 have c13b0 : (a1 == 0) = false := beq_eq_false_iff_ne.mpr c13
 have c13b1 : (a1 != 0) = true := bne_iff_ne.mpr c13
 by_cases c14 : a0 = 0
 ·
  rw [if_pos c14] at H
  have c14b0 : (a0 == 0) = true := beq_iff_eq.mpr c14
  have c14b1 : (a0 != 0) = false := bne_eq_false_iff_eq.mpr c14
  clear c14
  replace H := Option.bind_eq_some_iff.mp H
  obtain ⟨t215, A150, H⟩ := H
  replace H : (some t215) = some r := H
  have A15 := am A150
  clear A150
  obtain rfl := Option.some.inj H
  go_enter Try.func102, Try.ntmps102
  go_wp2_with (first | ((with_reducible refine gate_callee (f := 130) rfl ?_); refine goesL_ (some 24) rfl rfl Try.func130 (by kernel_rfl) rfl #[.int .i64 a1, .int .i64 a2] rfl (by (try simp only [List.map_toArray, List.map_cons, List.map_nil]); first | done | rfl | (simp only [List.length_drop, List.length_take]; rfl)) ?_; (with_reducible refine (spec_l01Signed.calls a1 a2 t213 _ A11.out).mono ?_); rintro e w' ⟨rfl, ⟨nd, rfl⟩⟩; refine ⟨_, rfl, ?_⟩) | ((with_reducible refine gate_callee (f := 130) rfl ?_); refine goesL_ (some 27) rfl rfl Try.func130 (by kernel_rfl) rfl #[.int .i64 a1, .int .i64 a3] rfl (by (try simp only [List.map_toArray, List.map_cons, List.map_nil]); first | done | rfl | (simp only [List.length_drop, List.length_take]; rfl)) ?_; (with_reducible refine (spec_l01Signed.calls a1 a3 t214 _ A12.out).mono ?_); rintro e w' ⟨rfl, ⟨nd, rfl⟩⟩; refine ⟨_, rfl, ?_⟩) | ((with_reducible refine gate_callee (f := 131) rfl ?_); refine goesL_ (some 39) rfl rfl Try.func131 (by kernel_rfl) rfl #[.int .i64 a1, .int .i64 (wrap64 (a2 + a3))] rfl (by (try simp only [List.map_toArray, List.map_cons, List.map_nil]); first | done | rfl | (simp only [List.length_drop, List.length_take]; rfl)) ?_; (with_reducible refine (spec_l01Wrap.calls a1 (wrap64 (a2 + a3)) t215 _ A15.out).mono ?_); rintro e w' ⟨rfl, ⟨nd, rfl⟩⟩; refine ⟨_, rfl, ?_⟩))
  go_ret
  exact ⟨by first | rfl | (simp; done) | (simp only [← hji5, ← hji7, ← hji8, ← hji10] <;> (first | rfl | simp)) | (simp [*]; done), by repeat (first | exact Drawn0.refl _ | apply Drawn0.step)⟩
 ·
  rw [if_neg c14] at H
  have c14b0 : (a0 == 0) = false := beq_eq_false_iff_ne.mpr c14
  have c14b1 : (a0 != 0) = true := bne_iff_ne.mpr c14
  by_cases c16 : a0 = 1
  ·
   rw [if_pos c16] at H
   have c16b0 : (a0 == 1) = true := beq_iff_eq.mpr c16
   have c16b1 : (a0 != 1) = false := bne_eq_false_iff_eq.mpr c16
   clear c16
   replace H := Option.bind_eq_some_iff.mp H
   obtain ⟨t216, A170, H⟩ := H
   replace H : (some t216) = some r := H
   have A17 := am A170
   clear A170
   obtain rfl := Option.some.inj H
   go_enter Try.func102, Try.ntmps102
   go_wp2_with (first | ((with_reducible refine gate_callee (f := 130) rfl ?_); refine goesL_ (some 24) rfl rfl Try.func130 (by kernel_rfl) rfl #[.int .i64 a1, .int .i64 a2] rfl (by (try simp only [List.map_toArray, List.map_cons, List.map_nil]); first | done | rfl | (simp only [List.length_drop, List.length_take]; rfl)) ?_; (with_reducible refine (spec_l01Signed.calls a1 a2 t213 _ A11.out).mono ?_); rintro e w' ⟨rfl, ⟨nd, rfl⟩⟩; refine ⟨_, rfl, ?_⟩) | ((with_reducible refine gate_callee (f := 130) rfl ?_); refine goesL_ (some 27) rfl rfl Try.func130 (by kernel_rfl) rfl #[.int .i64 a1, .int .i64 a3] rfl (by (try simp only [List.map_toArray, List.map_cons, List.map_nil]); first | done | rfl | (simp only [List.length_drop, List.length_take]; rfl)) ?_; (with_reducible refine (spec_l01Signed.calls a1 a3 t214 _ A12.out).mono ?_); rintro e w' ⟨rfl, ⟨nd, rfl⟩⟩; refine ⟨_, rfl, ?_⟩) | ((with_reducible refine gate_callee (f := 131) rfl ?_); refine goesL_ (some 46) rfl rfl Try.func131 (by kernel_rfl) rfl #[.int .i64 a1, .int .i64 (wrap64 (a2 - a3))] rfl (by (try simp only [List.map_toArray, List.map_cons, List.map_nil]); first | done | rfl | (simp only [List.length_drop, List.length_take]; rfl)) ?_; (with_reducible refine (spec_l01Wrap.calls a1 (wrap64 (a2 - a3)) t216 _ A17.out).mono ?_); rintro e w' ⟨rfl, ⟨nd, rfl⟩⟩; refine ⟨_, rfl, ?_⟩))
   go_ret
   exact ⟨by first | rfl | (simp; done) | (simp only [← hji5, ← hji7, ← hji8, ← hji10] <;> (first | rfl | simp)) | (simp [*]; done), by repeat (first | exact Drawn0.refl _ | apply Drawn0.step)⟩
  ·
   rw [if_neg c16] at H
   have c16b0 : (a0 == 1) = false := beq_eq_false_iff_ne.mpr c16
   have c16b1 : (a0 != 1) = true := bne_iff_ne.mpr c16
   by_cases c18 : a0 = 2
   ·
    rw [if_pos c18] at H
    have c18b0 : (a0 == 2) = true := beq_iff_eq.mpr c18
    have c18b1 : (a0 != 2) = false := bne_eq_false_iff_eq.mpr c18
    clear c18
    replace H := Option.bind_eq_some_iff.mp H
    obtain ⟨t217, A190, H⟩ := H
    replace H : (some t217) = some r := H
    have A19 := am A190
    clear A190
    obtain rfl := Option.some.inj H
    go_enter Try.func102, Try.ntmps102
    go_wp2_with (first | ((with_reducible refine gate_callee (f := 130) rfl ?_); refine goesL_ (some 24) rfl rfl Try.func130 (by kernel_rfl) rfl #[.int .i64 a1, .int .i64 a2] rfl (by (try simp only [List.map_toArray, List.map_cons, List.map_nil]); first | done | rfl | (simp only [List.length_drop, List.length_take]; rfl)) ?_; (with_reducible refine (spec_l01Signed.calls a1 a2 t213 _ A11.out).mono ?_); rintro e w' ⟨rfl, ⟨nd, rfl⟩⟩; refine ⟨_, rfl, ?_⟩) | ((with_reducible refine gate_callee (f := 130) rfl ?_); refine goesL_ (some 27) rfl rfl Try.func130 (by kernel_rfl) rfl #[.int .i64 a1, .int .i64 a3] rfl (by (try simp only [List.map_toArray, List.map_cons, List.map_nil]); first | done | rfl | (simp only [List.length_drop, List.length_take]; rfl)) ?_; (with_reducible refine (spec_l01Signed.calls a1 a3 t214 _ A12.out).mono ?_); rintro e w' ⟨rfl, ⟨nd, rfl⟩⟩; refine ⟨_, rfl, ?_⟩) | ((with_reducible refine gate_callee (f := 131) rfl ?_); refine goesL_ (some 53) rfl rfl Try.func131 (by kernel_rfl) rfl #[.int .i64 a1, .int .i64 (wrap64 (a2 * a3))] rfl (by (try simp only [List.map_toArray, List.map_cons, List.map_nil]); first | done | rfl | (simp only [List.length_drop, List.length_take]; rfl)) ?_; (with_reducible refine (spec_l01Wrap.calls a1 (wrap64 (a2 * a3)) t217 _ A19.out).mono ?_); rintro e w' ⟨rfl, ⟨nd, rfl⟩⟩; refine ⟨_, rfl, ?_⟩))
    go_ret
    exact ⟨by first | rfl | (simp; done) | (simp only [← hji5, ← hji7, ← hji8, ← hji10] <;> (first | rfl | simp)) | (simp [*]; done), by repeat (first | exact Drawn0.refl _ | apply Drawn0.step)⟩
   ·
    rw [if_neg c18] at H
    have c18b0 : (a0 == 2) = false := beq_eq_false_iff_ne.mpr c18
    have c18b1 : (a0 != 2) = true := bne_iff_ne.mpr c18
    by_cases c20 : a0 = 3
    ·
     rw [if_pos c20] at H
     have c20b0 : (a0 == 3) = true := beq_iff_eq.mpr c20
     have c20b1 : (a0 != 3) = false := bne_eq_false_iff_eq.mpr c20
     clear c20
     obtain rfl := Option.some.inj H
     go_enter Try.func102, Try.ntmps102
     go_wp2_with (first | ((with_reducible refine gate_callee (f := 130) rfl ?_); refine goesL_ (some 24) rfl rfl Try.func130 (by kernel_rfl) rfl #[.int .i64 a1, .int .i64 a2] rfl (by (try simp only [List.map_toArray, List.map_cons, List.map_nil]); first | done | rfl | (simp only [List.length_drop, List.length_take]; rfl)) ?_; (with_reducible refine (spec_l01Signed.calls a1 a2 t213 _ A11.out).mono ?_); rintro e w' ⟨rfl, ⟨nd, rfl⟩⟩; refine ⟨_, rfl, ?_⟩) | ((with_reducible refine gate_callee (f := 130) rfl ?_); refine goesL_ (some 27) rfl rfl Try.func130 (by kernel_rfl) rfl #[.int .i64 a1, .int .i64 a3] rfl (by (try simp only [List.map_toArray, List.map_cons, List.map_nil]); first | done | rfl | (simp only [List.length_drop, List.length_take]; rfl)) ?_; (with_reducible refine (spec_l01Signed.calls a1 a3 t214 _ A12.out).mono ?_); rintro e w' ⟨rfl, ⟨nd, rfl⟩⟩; refine ⟨_, rfl, ?_⟩))
     go_ret
     exact ⟨by first | rfl | (simp; done) | (simp only [← hji5, ← hji7, ← hji8, ← hji10] <;> (first | rfl | simp)) | (simp [*]; done), by repeat (first | exact Drawn0.refl _ | apply Drawn0.step)⟩
    ·
     rw [if_neg c20] at H
     have c20b0 : (a0 == 3) = false := beq_eq_false_iff_ne.mpr c20
     have c20b1 : (a0 != 3) = true := bne_iff_ne.mpr c20
     by_cases c21 : a0 = 4
     ·
      rw [if_pos c21] at H
      have c21b0 : (a0 == 4) = true := beq_iff_eq.mpr c21
      have c21b1 : (a0 != 4) = false := bne_eq_false_iff_eq.mpr c21
      clear c21
      obtain rfl := Option.some.inj H
      go_enter Try.func102, Try.ntmps102
      go_wp2_with (first | ((with_reducible refine gate_callee (f := 130) rfl ?_); refine goesL_ (some 24) rfl rfl Try.func130 (by kernel_rfl) rfl #[.int .i64 a1, .int .i64 a2] rfl (by (try simp only [List.map_toArray, List.map_cons, List.map_nil]); first | done | rfl | (simp only [List.length_drop, List.length_take]; rfl)) ?_; (with_reducible refine (spec_l01Signed.calls a1 a2 t213 _ A11.out).mono ?_); rintro e w' ⟨rfl, ⟨nd, rfl⟩⟩; refine ⟨_, rfl, ?_⟩) | ((with_reducible refine gate_callee (f := 130) rfl ?_); refine goesL_ (some 27) rfl rfl Try.func130 (by kernel_rfl) rfl #[.int .i64 a1, .int .i64 a3] rfl (by (try simp only [List.map_toArray, List.map_cons, List.map_nil]); first | done | rfl | (simp only [List.length_drop, List.length_take]; rfl)) ?_; (with_reducible refine (spec_l01Signed.calls a1 a3 t214 _ A12.out).mono ?_); rintro e w' ⟨rfl, ⟨nd, rfl⟩⟩; refine ⟨_, rfl, ?_⟩))
      go_ret
      exact ⟨by first | rfl | (simp; done) | (simp only [← hji5, ← hji7, ← hji8, ← hji10] <;> (first | rfl | simp)) | (simp [*]; done), by repeat (first | exact Drawn0.refl _ | apply Drawn0.step)⟩
     ·
      rw [if_neg c21] at H
      have c21b0 : (a0 == 4) = false := beq_eq_false_iff_ne.mpr c21
      have c21b1 : (a0 != 4) = true := bne_iff_ne.mpr c21
      by_cases c22 : a0 = 5
      ·
       rw [if_pos c22] at H
       have c22b0 : (a0 == 5) = true := beq_iff_eq.mpr c22
       have c22b1 : (a0 != 5) = false := bne_eq_false_iff_eq.mpr c22
       clear c22
       obtain rfl := Option.some.inj H
       go_enter Try.func102, Try.ntmps102
       go_wp2_with (first | ((with_reducible refine gate_callee (f := 130) rfl ?_); refine goesL_ (some 24) rfl rfl Try.func130 (by kernel_rfl) rfl #[.int .i64 a1, .int .i64 a2] rfl (by (try simp only [List.map_toArray, List.map_cons, List.map_nil]); first | done | rfl | (simp only [List.length_drop, List.length_take]; rfl)) ?_; (with_reducible refine (spec_l01Signed.calls a1 a2 t213 _ A11.out).mono ?_); rintro e w' ⟨rfl, ⟨nd, rfl⟩⟩; refine ⟨_, rfl, ?_⟩) | ((with_reducible refine gate_callee (f := 130) rfl ?_); refine goesL_ (some 27) rfl rfl Try.func130 (by kernel_rfl) rfl #[.int .i64 a1, .int .i64 a3] rfl (by (try simp only [List.map_toArray, List.map_cons, List.map_nil]); first | done | rfl | (simp only [List.length_drop, List.length_take]; rfl)) ?_; (with_reducible refine (spec_l01Signed.calls a1 a3 t214 _ A12.out).mono ?_); rintro e w' ⟨rfl, ⟨nd, rfl⟩⟩; refine ⟨_, rfl, ?_⟩))
       go_ret
       exact ⟨by first | rfl | (simp; done) | (simp only [← hji5, ← hji7, ← hji8, ← hji10] <;> (first | rfl | simp)) | (simp [*]; done), by repeat (first | exact Drawn0.refl _ | apply Drawn0.step)⟩
      ·
       rw [if_neg c22] at H
       have c22b0 : (a0 == 5) = false := beq_eq_false_iff_ne.mpr c22
       have c22b1 : (a0 != 5) = true := bne_iff_ne.mpr c22
       by_cases c23 : a0 = 6
       ·
        rw [if_pos c23] at H
        have c23b0 : (a0 == 6) = true := beq_iff_eq.mpr c23
        have c23b1 : (a0 != 6) = false := bne_eq_false_iff_eq.mpr c23
        clear c23
        replace H := Option.bind_eq_some_iff.mp H
        obtain ⟨t218, A240, H⟩ := H
        replace H : (some t218) = some r := H
        have A24 := am A240
        clear A240
        obtain rfl := Option.some.inj H
        go_enter Try.func102, Try.ntmps102
        go_wp2_with (first | ((with_reducible refine gate_callee (f := 130) rfl ?_); refine goesL_ (some 24) rfl rfl Try.func130 (by kernel_rfl) rfl #[.int .i64 a1, .int .i64 a2] rfl (by (try simp only [List.map_toArray, List.map_cons, List.map_nil]); first | done | rfl | (simp only [List.length_drop, List.length_take]; rfl)) ?_; (with_reducible refine (spec_l01Signed.calls a1 a2 t213 _ A11.out).mono ?_); rintro e w' ⟨rfl, ⟨nd, rfl⟩⟩; refine ⟨_, rfl, ?_⟩) | ((with_reducible refine gate_callee (f := 130) rfl ?_); refine goesL_ (some 27) rfl rfl Try.func130 (by kernel_rfl) rfl #[.int .i64 a1, .int .i64 a3] rfl (by (try simp only [List.map_toArray, List.map_cons, List.map_nil]); first | done | rfl | (simp only [List.length_drop, List.length_take]; rfl)) ?_; (with_reducible refine (spec_l01Signed.calls a1 a3 t214 _ A12.out).mono ?_); rintro e w' ⟨rfl, ⟨nd, rfl⟩⟩; refine ⟨_, rfl, ?_⟩) | ((with_reducible refine gate_callee (f := 132) rfl ?_); refine goesL_ (some 73) rfl rfl Try.func132 (by kernel_rfl) rfl #[.int .i64 a2, .int .i64 a3] rfl (by (try simp only [List.map_toArray, List.map_cons, List.map_nil]); first | done | rfl | (simp only [List.length_drop, List.length_take]; rfl)) ?_; (with_reducible refine (spec_l00Min.calls a2 a3 t218 _ A24.out).mono ?_); rintro e w' ⟨rfl, ⟨nd, rfl⟩⟩; refine ⟨_, rfl, ?_⟩))
        go_ret
        exact ⟨by first | rfl | (simp; done) | (simp only [← hji5, ← hji7, ← hji8, ← hji10] <;> (first | rfl | simp)) | (simp [*]; done), by repeat (first | exact Drawn0.refl _ | apply Drawn0.step)⟩
       ·
        rw [if_neg c23] at H
        have c23b0 : (a0 == 6) = false := beq_eq_false_iff_ne.mpr c23
        have c23b1 : (a0 != 6) = true := bne_iff_ne.mpr c23
        by_cases c25 : a0 = 7
        ·
         rw [if_pos c25] at H
         have c25b0 : (a0 == 7) = true := beq_iff_eq.mpr c25
         have c25b1 : (a0 != 7) = false := bne_eq_false_iff_eq.mpr c25
         clear c25
         replace H := Option.bind_eq_some_iff.mp H
         obtain ⟨t219, A260, H⟩ := H
         replace H : (some t219) = some r := H
         have A26 := am A260
         clear A260
         obtain rfl := Option.some.inj H
         go_enter Try.func102, Try.ntmps102
         go_wp2_with (first | ((with_reducible refine gate_callee (f := 130) rfl ?_); refine goesL_ (some 24) rfl rfl Try.func130 (by kernel_rfl) rfl #[.int .i64 a1, .int .i64 a2] rfl (by (try simp only [List.map_toArray, List.map_cons, List.map_nil]); first | done | rfl | (simp only [List.length_drop, List.length_take]; rfl)) ?_; (with_reducible refine (spec_l01Signed.calls a1 a2 t213 _ A11.out).mono ?_); rintro e w' ⟨rfl, ⟨nd, rfl⟩⟩; refine ⟨_, rfl, ?_⟩) | ((with_reducible refine gate_callee (f := 130) rfl ?_); refine goesL_ (some 27) rfl rfl Try.func130 (by kernel_rfl) rfl #[.int .i64 a1, .int .i64 a3] rfl (by (try simp only [List.map_toArray, List.map_cons, List.map_nil]); first | done | rfl | (simp only [List.length_drop, List.length_take]; rfl)) ?_; (with_reducible refine (spec_l01Signed.calls a1 a3 t214 _ A12.out).mono ?_); rintro e w' ⟨rfl, ⟨nd, rfl⟩⟩; refine ⟨_, rfl, ?_⟩) | ((with_reducible refine gate_callee (f := 133) rfl ?_); refine goesL_ (some 78) rfl rfl Try.func133 (by kernel_rfl) rfl #[.int .i64 a2, .int .i64 a3] rfl (by (try simp only [List.map_toArray, List.map_cons, List.map_nil]); first | done | rfl | (simp only [List.length_drop, List.length_take]; rfl)) ?_; (with_reducible refine (spec_l00Max.calls a2 a3 t219 _ A26.out).mono ?_); rintro e w' ⟨rfl, ⟨nd, rfl⟩⟩; refine ⟨_, rfl, ?_⟩))
         go_ret
         exact ⟨by first | rfl | (simp; done) | (simp only [← hji5, ← hji7, ← hji8, ← hji10] <;> (first | rfl | simp)) | (simp [*]; done), by repeat (first | exact Drawn0.refl _ | apply Drawn0.step)⟩
        ·
         rw [if_neg c25] at H
         have c25b0 : (a0 == 7) = false := beq_eq_false_iff_ne.mpr c25
         have c25b1 : (a0 != 7) = true := bne_iff_ne.mpr c25
         by_cases c27 : a0 = 8
         ·
          rw [if_pos c27] at H
          have c27b0 : (a0 == 8) = true := beq_iff_eq.mpr c27
          have c27b1 : (a0 != 8) = false := bne_eq_false_iff_eq.mpr c27
          clear c27
          replace H := Option.bind_eq_some_iff.mp H
          obtain ⟨t220, A280, H⟩ := H
          replace H : ((spec_l01Wrap.f a1 t220).bind fun t221 => (some t221)) = some r := H
          have A28 := am A280
          clear A280
          replace H := Option.bind_eq_some_iff.mp H
          obtain ⟨t221, A290, H⟩ := H
          replace H : (some t221) = some r := H
          have A29 := am A290
          clear A290
          obtain rfl := Option.some.inj H
          go_enter Try.func102, Try.ntmps102
          go_wp2_with (first | ((with_reducible refine gate_callee (f := 130) rfl ?_); refine goesL_ (some 24) rfl rfl Try.func130 (by kernel_rfl) rfl #[.int .i64 a1, .int .i64 a2] rfl (by (try simp only [List.map_toArray, List.map_cons, List.map_nil]); first | done | rfl | (simp only [List.length_drop, List.length_take]; rfl)) ?_; (with_reducible refine (spec_l01Signed.calls a1 a2 t213 _ A11.out).mono ?_); rintro e w' ⟨rfl, ⟨nd, rfl⟩⟩; refine ⟨_, rfl, ?_⟩) | ((with_reducible refine gate_callee (f := 130) rfl ?_); refine goesL_ (some 27) rfl rfl Try.func130 (by kernel_rfl) rfl #[.int .i64 a1, .int .i64 a3] rfl (by (try simp only [List.map_toArray, List.map_cons, List.map_nil]); first | done | rfl | (simp only [List.length_drop, List.length_take]; rfl)) ?_; (with_reducible refine (spec_l01Signed.calls a1 a3 t214 _ A12.out).mono ?_); rintro e w' ⟨rfl, ⟨nd, rfl⟩⟩; refine ⟨_, rfl, ?_⟩) | ((with_reducible refine gate_callee (f := 132) rfl ?_); refine goesL_ (some 84) rfl rfl Try.func132 (by kernel_rfl) rfl #[.int .i64 t213, .int .i64 t214] rfl (by (try simp only [List.map_toArray, List.map_cons, List.map_nil]); first | done | rfl | (simp only [List.length_drop, List.length_take]; rfl)) ?_; (with_reducible refine (spec_l00Min.calls t213 t214 t220 _ A28.out).mono ?_); rintro e w' ⟨rfl, ⟨nd, rfl⟩⟩; refine ⟨_, rfl, ?_⟩) | ((with_reducible refine gate_callee (f := 131) rfl ?_); refine goesL_ (some 85) rfl rfl Try.func131 (by kernel_rfl) rfl #[.int .i64 a1, .int .i64 t220] rfl (by (try simp only [List.map_toArray, List.map_cons, List.map_nil]); first | done | rfl | (simp only [List.length_drop, List.length_take]; rfl)) ?_; (with_reducible refine (spec_l01Wrap.calls a1 t220 t221 _ A29.out).mono ?_); rintro e w' ⟨rfl, ⟨nd, rfl⟩⟩; refine ⟨_, rfl, ?_⟩))
          go_ret
          exact ⟨by first | rfl | (simp; done) | (simp only [← hji5, ← hji7, ← hji8, ← hji10] <;> (first | rfl | simp)) | (simp [*]; done), by repeat (first | exact Drawn0.refl _ | apply Drawn0.step)⟩
         ·
          rw [if_neg c27] at H
          have c27b0 : (a0 == 8) = false := beq_eq_false_iff_ne.mpr c27
          have c27b1 : (a0 != 8) = true := bne_iff_ne.mpr c27
          by_cases c30 : a0 = 9
          ·
           rw [if_pos c30] at H
           have c30b0 : (a0 == 9) = true := beq_iff_eq.mpr c30
           have c30b1 : (a0 != 9) = false := bne_eq_false_iff_eq.mpr c30
           clear c30
           replace H := Option.bind_eq_some_iff.mp H
           obtain ⟨t222, A310, H⟩ := H
           replace H : ((spec_l01Wrap.f a1 t222).bind fun t223 => (some t223)) = some r := H
           have A31 := am A310
           clear A310
           replace H := Option.bind_eq_some_iff.mp H
           obtain ⟨t223, A320, H⟩ := H
           replace H : (some t223) = some r := H
           have A32 := am A320
           clear A320
           obtain rfl := Option.some.inj H
           go_enter Try.func102, Try.ntmps102
           go_wp2_with (first | ((with_reducible refine gate_callee (f := 130) rfl ?_); refine goesL_ (some 24) rfl rfl Try.func130 (by kernel_rfl) rfl #[.int .i64 a1, .int .i64 a2] rfl (by (try simp only [List.map_toArray, List.map_cons, List.map_nil]); first | done | rfl | (simp only [List.length_drop, List.length_take]; rfl)) ?_; (with_reducible refine (spec_l01Signed.calls a1 a2 t213 _ A11.out).mono ?_); rintro e w' ⟨rfl, ⟨nd, rfl⟩⟩; refine ⟨_, rfl, ?_⟩) | ((with_reducible refine gate_callee (f := 130) rfl ?_); refine goesL_ (some 27) rfl rfl Try.func130 (by kernel_rfl) rfl #[.int .i64 a1, .int .i64 a3] rfl (by (try simp only [List.map_toArray, List.map_cons, List.map_nil]); first | done | rfl | (simp only [List.length_drop, List.length_take]; rfl)) ?_; (with_reducible refine (spec_l01Signed.calls a1 a3 t214 _ A12.out).mono ?_); rintro e w' ⟨rfl, ⟨nd, rfl⟩⟩; refine ⟨_, rfl, ?_⟩) | ((with_reducible refine gate_callee (f := 133) rfl ?_); refine goesL_ (some 91) rfl rfl Try.func133 (by kernel_rfl) rfl #[.int .i64 t213, .int .i64 t214] rfl (by (try simp only [List.map_toArray, List.map_cons, List.map_nil]); first | done | rfl | (simp only [List.length_drop, List.length_take]; rfl)) ?_; (with_reducible refine (spec_l00Max.calls t213 t214 t222 _ A31.out).mono ?_); rintro e w' ⟨rfl, ⟨nd, rfl⟩⟩; refine ⟨_, rfl, ?_⟩) | ((with_reducible refine gate_callee (f := 131) rfl ?_); refine goesL_ (some 92) rfl rfl Try.func131 (by kernel_rfl) rfl #[.int .i64 a1, .int .i64 t222] rfl (by (try simp only [List.map_toArray, List.map_cons, List.map_nil]); first | done | rfl | (simp only [List.length_drop, List.length_take]; rfl)) ?_; (with_reducible refine (spec_l01Wrap.calls a1 t222 t223 _ A32.out).mono ?_); rintro e w' ⟨rfl, ⟨nd, rfl⟩⟩; refine ⟨_, rfl, ?_⟩))
           go_ret
           exact ⟨by first | rfl | (simp; done) | (simp only [← hji5, ← hji7, ← hji8, ← hji10] <;> (first | rfl | simp)) | (simp [*]; done), by repeat (first | exact Drawn0.refl _ | apply Drawn0.step)⟩
          ·
           rw [if_neg c30] at H
           have c30b0 : (a0 == 9) = false := beq_eq_false_iff_ne.mpr c30
           have c30b1 : (a0 != 9) = true := bne_iff_ne.mpr c30
           by_cases c33 : a0 = 10
           ·
            rw [if_pos c33] at H
            have c33b0 : (a0 == 10) = true := beq_iff_eq.mpr c33
            have c33b1 : (a0 != 10) = false := bne_eq_false_iff_eq.mpr c33
            clear c33
            replace H := Option.bind_eq_some_iff.mp H
            obtain ⟨t224, A340, H⟩ := H
            replace H : (some t224) = some r := H
            have A34 := am A340
            clear A340
            obtain rfl := Option.some.inj H
            go_enter Try.func102, Try.ntmps102
            go_wp2_with (first | ((with_reducible refine gate_callee (f := 130) rfl ?_); refine goesL_ (some 24) rfl rfl Try.func130 (by kernel_rfl) rfl #[.int .i64 a1, .int .i64 a2] rfl (by (try simp only [List.map_toArray, List.map_cons, List.map_nil]); first | done | rfl | (simp only [List.length_drop, List.length_take]; rfl)) ?_; (with_reducible refine (spec_l01Signed.calls a1 a2 t213 _ A11.out).mono ?_); rintro e w' ⟨rfl, ⟨nd, rfl⟩⟩; refine ⟨_, rfl, ?_⟩) | ((with_reducible refine gate_callee (f := 130) rfl ?_); refine goesL_ (some 27) rfl rfl Try.func130 (by kernel_rfl) rfl #[.int .i64 a1, .int .i64 a3] rfl (by (try simp only [List.map_toArray, List.map_cons, List.map_nil]); first | done | rfl | (simp only [List.length_drop, List.length_take]; rfl)) ?_; (with_reducible refine (spec_l01Signed.calls a1 a3 t214 _ A12.out).mono ?_); rintro e w' ⟨rfl, ⟨nd, rfl⟩⟩; refine ⟨_, rfl, ?_⟩) | ((with_reducible refine gate_callee (f := 132) rfl ?_); refine goesL_ (some 99) rfl rfl Try.func132 (by kernel_rfl) rfl #[.int .i64 (wrap64 (a2 + a3)), .int .i64 (wrap64 ((ji7) - 1))] rfl (by (try simp only [List.map_toArray, List.map_cons, List.map_nil]); first | done | (simp only [hji7]; rfl) | rfl | (simp only [List.length_drop, List.length_take]; rfl)) ?_; (with_reducible refine (spec_l00Min.calls (wrap64 (a2 + a3)) (wrap64 ((ji7) - 1)) t224 _ A34.out).mono ?_); rintro e w' ⟨rfl, ⟨nd, rfl⟩⟩; refine ⟨_, rfl, ?_⟩))
            go_ret
            exact ⟨by first | rfl | (simp; done) | (simp only [← hji5, ← hji7, ← hji8, ← hji10] <;> (first | rfl | simp)) | (simp [*]; done), by repeat (first | exact Drawn0.refl _ | apply Drawn0.step)⟩
           ·
            rw [if_neg c33] at H
            have c33b0 : (a0 == 10) = false := beq_eq_false_iff_ne.mpr c33
            have c33b1 : (a0 != 10) = true := bne_iff_ne.mpr c33
            by_cases c35 : a0 = 11
            ·
             rw [if_pos c35] at H
             have c35b0 : (a0 == 11) = true := beq_iff_eq.mpr c35
             have c35b1 : (a0 != 11) = false := bne_eq_false_iff_eq.mpr c35
             clear c35
             replace H := Option.bind_eq_some_iff.mp H
             obtain ⟨t225, A360, H⟩ := H
             replace H : ((spec_l01Wrap.f a1 t225).bind fun t226 => (some t226)) = some r := H
             have A36 := am A360
             clear A360
             replace H := Option.bind_eq_some_iff.mp H
             obtain ⟨t226, A370, H⟩ := H
             replace H : (some t226) = some r := H
             have A37 := am A370
             clear A370
             obtain rfl := Option.some.inj H
             go_enter Try.func102, Try.ntmps102
             go_wp2_with (first | ((with_reducible refine gate_callee (f := 130) rfl ?_); refine goesL_ (some 24) rfl rfl Try.func130 (by kernel_rfl) rfl #[.int .i64 a1, .int .i64 a2] rfl (by (try simp only [List.map_toArray, List.map_cons, List.map_nil]); first | done | rfl | (simp only [List.length_drop, List.length_take]; rfl)) ?_; (with_reducible refine (spec_l01Signed.calls a1 a2 t213 _ A11.out).mono ?_); rintro e w' ⟨rfl, ⟨nd, rfl⟩⟩; refine ⟨_, rfl, ?_⟩) | ((with_reducible refine gate_callee (f := 130) rfl ?_); refine goesL_ (some 27) rfl rfl Try.func130 (by kernel_rfl) rfl #[.int .i64 a1, .int .i64 a3] rfl (by (try simp only [List.map_toArray, List.map_cons, List.map_nil]); first | done | rfl | (simp only [List.length_drop, List.length_take]; rfl)) ?_; (with_reducible refine (spec_l01Signed.calls a1 a3 t214 _ A12.out).mono ?_); rintro e w' ⟨rfl, ⟨nd, rfl⟩⟩; refine ⟨_, rfl, ?_⟩) | ((with_reducible refine gate_callee (f := 134) rfl ?_); refine goesL_ (some 110) rfl rfl Try.func134 (by kernel_rfl) rfl #[.int .i64 (wrap64 (t213 + t214)), .int .i64 (wrap64 (-(ji10))), .int .i64 (wrap64 ((ji10) - 1))] rfl (by (try simp only [List.map_toArray, List.map_cons, List.map_nil]); first | done | (simp only [hji10]; rfl) | rfl | (simp only [List.length_drop, List.length_take]; rfl)) ?_; (with_reducible refine (spec_l01Between.calls (wrap64 (t213 + t214)) (wrap64 (-(ji10))) (wrap64 ((ji10) - 1)) t225 _ A36.out).mono ?_); rintro e w' ⟨rfl, ⟨nd, rfl⟩⟩; refine ⟨_, rfl, ?_⟩) | ((with_reducible refine gate_callee (f := 131) rfl ?_); refine goesL_ (some 111) rfl rfl Try.func131 (by kernel_rfl) rfl #[.int .i64 a1, .int .i64 t225] rfl (by (try simp only [List.map_toArray, List.map_cons, List.map_nil]); first | done | rfl | (simp only [List.length_drop, List.length_take]; rfl)) ?_; (with_reducible refine (spec_l01Wrap.calls a1 t225 t226 _ A37.out).mono ?_); rintro e w' ⟨rfl, ⟨nd, rfl⟩⟩; refine ⟨_, rfl, ?_⟩))
             go_ret
             exact ⟨by first | rfl | (simp; done) | (simp only [← hji5, ← hji7, ← hji8, ← hji10] <;> (first | rfl | simp)) | (simp [*]; done), by repeat (first | exact Drawn0.refl _ | apply Drawn0.step)⟩
            ·
             rw [if_neg c35] at H
             have c35b0 : (a0 == 11) = false := beq_eq_false_iff_ne.mpr c35
             have c35b1 : (a0 != 11) = true := bne_iff_ne.mpr c35
             by_cases c38 : a0 = 12
             ·
              rw [if_pos c38] at H
              have c38b0 : (a0 == 12) = true := beq_iff_eq.mpr c38
              have c38b1 : (a0 != 12) = false := bne_eq_false_iff_eq.mpr c38
              clear c38
              replace H := Option.bind_eq_some_iff.mp H
              obtain ⟨t227, A390, H⟩ := H
              replace H : (some t227) = some r := H
              have A39 := am A390
              clear A390
              obtain rfl := Option.some.inj H
              go_enter Try.func102, Try.ntmps102
              go_wp2_with (first | ((with_reducible refine gate_callee (f := 130) rfl ?_); refine goesL_ (some 24) rfl rfl Try.func130 (by kernel_rfl) rfl #[.int .i64 a1, .int .i64 a2] rfl (by (try simp only [List.map_toArray, List.map_cons, List.map_nil]); first | done | rfl | (simp only [List.length_drop, List.length_take]; rfl)) ?_; (with_reducible refine (spec_l01Signed.calls a1 a2 t213 _ A11.out).mono ?_); rintro e w' ⟨rfl, ⟨nd, rfl⟩⟩; refine ⟨_, rfl, ?_⟩) | ((with_reducible refine gate_callee (f := 130) rfl ?_); refine goesL_ (some 27) rfl rfl Try.func130 (by kernel_rfl) rfl #[.int .i64 a1, .int .i64 a3] rfl (by (try simp only [List.map_toArray, List.map_cons, List.map_nil]); first | done | rfl | (simp only [List.length_drop, List.length_take]; rfl)) ?_; (with_reducible refine (spec_l01Signed.calls a1 a3 t214 _ A12.out).mono ?_); rintro e w' ⟨rfl, ⟨nd, rfl⟩⟩; refine ⟨_, rfl, ?_⟩) | ((with_reducible refine gate_callee (f := 133) rfl ?_); refine goesL_ (some 117) rfl rfl Try.func133 (by kernel_rfl) rfl #[.int .i64 (wrap64 (a2 - a3)), .int .i64 0] rfl (by (try simp only [List.map_toArray, List.map_cons, List.map_nil]); first | done | rfl | (simp only [List.length_drop, List.length_take]; rfl)) ?_; (with_reducible refine (spec_l00Max.calls (wrap64 (a2 - a3)) 0 t227 _ A39.out).mono ?_); rintro e w' ⟨rfl, ⟨nd, rfl⟩⟩; refine ⟨_, rfl, ?_⟩))
              go_ret
              exact ⟨by first | rfl | (simp; done) | (simp only [← hji5, ← hji7, ← hji8, ← hji10] <;> (first | rfl | simp)) | (simp [*]; done), by repeat (first | exact Drawn0.refl _ | apply Drawn0.step)⟩
             ·
              rw [if_neg c38] at H
              have c38b0 : (a0 == 12) = false := beq_eq_false_iff_ne.mpr c38
              have c38b1 : (a0 != 12) = true := bne_iff_ne.mpr c38
              by_cases c40 : a0 = 13
              ·
               rw [if_pos c40] at H
               have c40b0 : (a0 == 13) = true := beq_iff_eq.mpr c40
               have c40b1 : (a0 != 13) = false := bne_eq_false_iff_eq.mpr c40
               clear c40
               replace H := Option.bind_eq_some_iff.mp H
               obtain ⟨t228, A410, H⟩ := H
               replace H : ((spec_l01Wrap.f a1 t228).bind fun t229 => (some t229)) = some r := H
               have A41 := am A410
               clear A410
               replace H := Option.bind_eq_some_iff.mp H
               obtain ⟨t229, A420, H⟩ := H
               replace H : (some t229) = some r := H
               have A42 := am A420
               clear A420
               obtain rfl := Option.some.inj H
               go_enter Try.func102, Try.ntmps102
               go_wp2_with (first | ((with_reducible refine gate_callee (f := 130) rfl ?_); refine goesL_ (some 24) rfl rfl Try.func130 (by kernel_rfl) rfl #[.int .i64 a1, .int .i64 a2] rfl (by (try simp only [List.map_toArray, List.map_cons, List.map_nil]); first | done | rfl | (simp only [List.length_drop, List.length_take]; rfl)) ?_; (with_reducible refine (spec_l01Signed.calls a1 a2 t213 _ A11.out).mono ?_); rintro e w' ⟨rfl, ⟨nd, rfl⟩⟩; refine ⟨_, rfl, ?_⟩) | ((with_reducible refine gate_callee (f := 130) rfl ?_); refine goesL_ (some 27) rfl rfl Try.func130 (by kernel_rfl) rfl #[.int .i64 a1, .int .i64 a3] rfl (by (try simp only [List.map_toArray, List.map_cons, List.map_nil]); first | done | rfl | (simp only [List.length_drop, List.length_take]; rfl)) ?_; (with_reducible refine (spec_l01Signed.calls a1 a3 t214 _ A12.out).mono ?_); rintro e w' ⟨rfl, ⟨nd, rfl⟩⟩; refine ⟨_, rfl, ?_⟩) | ((with_reducible refine gate_callee (f := 134) rfl ?_); refine goesL_ (some 128) rfl rfl Try.func134 (by kernel_rfl) rfl #[.int .i64 (wrap64 (t213 - t214)), .int .i64 (wrap64 (-(ji10))), .int .i64 (wrap64 ((ji10) - 1))] rfl (by (try simp only [List.map_toArray, List.map_cons, List.map_nil]); first | done | (simp only [hji10]; rfl) | rfl | (simp only [List.length_drop, List.length_take]; rfl)) ?_; (with_reducible refine (spec_l01Between.calls (wrap64 (t213 - t214)) (wrap64 (-(ji10))) (wrap64 ((ji10) - 1)) t228 _ A41.out).mono ?_); rintro e w' ⟨rfl, ⟨nd, rfl⟩⟩; refine ⟨_, rfl, ?_⟩) | ((with_reducible refine gate_callee (f := 131) rfl ?_); refine goesL_ (some 129) rfl rfl Try.func131 (by kernel_rfl) rfl #[.int .i64 a1, .int .i64 t228] rfl (by (try simp only [List.map_toArray, List.map_cons, List.map_nil]); first | done | rfl | (simp only [List.length_drop, List.length_take]; rfl)) ?_; (with_reducible refine (spec_l01Wrap.calls a1 t228 t229 _ A42.out).mono ?_); rintro e w' ⟨rfl, ⟨nd, rfl⟩⟩; refine ⟨_, rfl, ?_⟩))
               go_ret
               exact ⟨by first | rfl | (simp; done) | (simp only [← hji5, ← hji7, ← hji8, ← hji10] <;> (first | rfl | simp)) | (simp [*]; done), by repeat (first | exact Drawn0.refl _ | apply Drawn0.step)⟩
              ·
               rw [if_neg c40] at H
               have c40b0 : (a0 == 13) = false := beq_eq_false_iff_ne.mpr c40
               have c40b1 : (a0 != 13) = true := bne_iff_ne.mpr c40
               by_cases c43 : a0 = 14
               ·
                rw [if_pos c43] at H
                have c43b0 : (a0 == 14) = true := beq_iff_eq.mpr c43
                have c43b1 : (a0 != 14) = false := bne_eq_false_iff_eq.mpr c43
                clear c43
                obtain rfl := Option.some.inj H
                go_enter Try.func102, Try.ntmps102
                go_wp2_with (first | ((with_reducible refine gate_callee (f := 130) rfl ?_); refine goesL_ (some 24) rfl rfl Try.func130 (by kernel_rfl) rfl #[.int .i64 a1, .int .i64 a2] rfl (by (try simp only [List.map_toArray, List.map_cons, List.map_nil]); first | done | rfl | (simp only [List.length_drop, List.length_take]; rfl)) ?_; (with_reducible refine (spec_l01Signed.calls a1 a2 t213 _ A11.out).mono ?_); rintro e w' ⟨rfl, ⟨nd, rfl⟩⟩; refine ⟨_, rfl, ?_⟩) | ((with_reducible refine gate_callee (f := 130) rfl ?_); refine goesL_ (some 27) rfl rfl Try.func130 (by kernel_rfl) rfl #[.int .i64 a1, .int .i64 a3] rfl (by (try simp only [List.map_toArray, List.map_cons, List.map_nil]); first | done | rfl | (simp only [List.length_drop, List.length_take]; rfl)) ?_; (with_reducible refine (spec_l01Signed.calls a1 a3 t214 _ A12.out).mono ?_); rintro e w' ⟨rfl, ⟨nd, rfl⟩⟩; refine ⟨_, rfl, ?_⟩))
                go_ret
                exact ⟨by first | rfl | (simp; done) | (simp only [← hji5, ← hji7, ← hji8, ← hji10] <;> (first | rfl | simp)) | (simp [*]; done), by repeat (first | exact Drawn0.refl _ | apply Drawn0.step)⟩
               ·
                rw [if_neg c43] at H
                have c43b0 : (a0 == 14) = false := beq_eq_false_iff_ne.mpr c43
                have c43b1 : (a0 != 14) = true := bne_iff_ne.mpr c43
                by_cases c44 : a0 = 15
                ·
                 rw [if_pos c44] at H
                 have c44b0 : (a0 == 15) = true := beq_iff_eq.mpr c44
                 have c44b1 : (a0 != 15) = false := bne_eq_false_iff_eq.mpr c44
                 clear c44
                 obtain ⟨ji45, hji45⟩ : ∃ j_ : Int, (IntKind.u64.wrap (Int.tmod a3 a1)) = j_ := ⟨_, rfl⟩
                 replace H : (if 0 ≤ (ji45) then ((spec_l01Wrap.f a1 (shl .i64 a2 (ji45))).bind fun t230 => (some t230)) else (none)) = some r := by first | (rw [hji45] at H; exact H) | (simp only [hji45] at H ⊢; exact H)
                 (try rw [hji45] at A11)
                 (try rw [hji45] at A12)
                 replace H := ifp H; obtain ⟨c46, H⟩ := H
                 have c46b0 := eq_true c46
                 have c46b1 : decide (0 ≤ (ji45)) = true := decide_eq_true c46
                 clear c46
                 obtain ⟨ji47, hji47⟩ : ∃ j_ : Int, (shl .i64 a2 (ji45)) = j_ := ⟨_, rfl⟩
                 replace H : ((spec_l01Wrap.f a1 (ji47)).bind fun t230 => (some t230)) = some r := by first | (rw [hji47] at H; exact H) | (simp only [hji47] at H ⊢; exact H)
                 (try rw [hji47] at A11)
                 (try rw [hji47] at A12)
                 have hji47_ : (IntKind.i64.wrap (a2 * 2 ^ min (ji45).toNat 64)) = ji47 := hji47
                 have hji47z : (ji45) ≤ 64 → (IntKind.i64.wrap (a2 * 2 ^ (ji45).toNat)) = ji47 := shl_small hji47
                 have hji47y : (wrap64 (a2 * 2 ^ min (ji45).toNat 64)) = ji47 := (i64_w _).symm.trans hji47_
                 have hji47x : (ji45) ≤ 64 → (wrap64 (a2 * 2 ^ (ji45).toNat)) = ji47 := fun h_ => (i64_w _).symm.trans (hji47z h_)
                 replace H := Option.bind_eq_some_iff.mp H
                 obtain ⟨t230, A480, H⟩ := H
                 replace H : (some t230) = some r := H
                 have A48 := am A480
                 clear A480
                 obtain rfl := Option.some.inj H
                 go_enter Try.func102, Try.ntmps102
                 go_wp2_with (first | ((with_reducible refine gate_callee (f := 130) rfl ?_); refine goesL_ (some 24) rfl rfl Try.func130 (by kernel_rfl) rfl #[.int .i64 a1, .int .i64 a2] rfl (by (try simp only [List.map_toArray, List.map_cons, List.map_nil]); first | done | rfl | (simp only [List.length_drop, List.length_take]; rfl)) ?_; (with_reducible refine (spec_l01Signed.calls a1 a2 t213 _ A11.out).mono ?_); rintro e w' ⟨rfl, ⟨nd, rfl⟩⟩; refine ⟨_, rfl, ?_⟩) | ((with_reducible refine gate_callee (f := 130) rfl ?_); refine goesL_ (some 27) rfl rfl Try.func130 (by kernel_rfl) rfl #[.int .i64 a1, .int .i64 a3] rfl (by (try simp only [List.map_toArray, List.map_cons, List.map_nil]); first | done | rfl | (simp only [List.length_drop, List.length_take]; rfl)) ?_; (with_reducible refine (spec_l01Signed.calls a1 a3 t214 _ A12.out).mono ?_); rintro e w' ⟨rfl, ⟨nd, rfl⟩⟩; refine ⟨_, rfl, ?_⟩) | ((with_reducible refine gate_callee (f := 131) rfl ?_); refine goesL_ (some 143) rfl rfl Try.func131 (by kernel_rfl) rfl #[.int .i64 a1, .int .i64 ji47] rfl (by (try simp only [List.map_toArray, List.map_cons, List.map_nil]); first | done | (simp only [hji47]; rfl) | rfl | (simp only [List.length_drop, List.length_take]; rfl)) ?_; (with_reducible refine (spec_l01Wrap.calls a1 ji47 t230 _ A48.out).mono ?_); rintro e w' ⟨rfl, ⟨nd, rfl⟩⟩; refine ⟨_, rfl, ?_⟩))
                 go_ret
                 exact ⟨by first | rfl | (simp; done) | (simp only [← hji5, ← hji7, ← hji8, ← hji10, ← hji45, ← hji47] <;> (first | rfl | simp)) | (simp [*]; done), by repeat (first | exact Drawn0.refl _ | apply Drawn0.step)⟩
                ·
                 rw [if_neg c44] at H
                 have c44b0 : (a0 == 15) = false := beq_eq_false_iff_ne.mpr c44
                 have c44b1 : (a0 != 15) = true := bne_iff_ne.mpr c44
                 by_cases c49 : a0 = 16
                 ·
                  rw [if_pos c49] at H
                  have c49b0 : (a0 == 16) = true := beq_iff_eq.mpr c49
                  have c49b1 : (a0 != 16) = false := bne_eq_false_iff_eq.mpr c49
                  clear c49
                  obtain ⟨ji50, hji50⟩ : ∃ j_ : Int, (IntKind.u64.wrap (Int.tmod a3 a1)) = j_ := ⟨_, rfl⟩
                  replace H : (if 0 ≤ (ji50) then (some (shr .i64 a2 (ji50))) else (none)) = some r := by first | (rw [hji50] at H; exact H) | (simp only [hji50] at H ⊢; exact H)
                  (try rw [hji50] at A11)
                  (try rw [hji50] at A12)
                  replace H := ifp H; obtain ⟨c51, H⟩ := H
                  have c51b0 := eq_true c51
                  have c51b1 : decide (0 ≤ (ji50)) = true := decide_eq_true c51
                  clear c51
                  obtain ⟨ji52, hji52⟩ : ∃ j_ : Int, (shr .i64 a2 (ji50)) = j_ := ⟨_, rfl⟩
                  replace H : (some ji52) = some r := by first | (rw [hji52] at H; exact H) | (simp only [hji52] at H ⊢; exact H)
                  (try rw [hji52] at A11)
                  (try rw [hji52] at A12)
                  have hji52_ : (a2 / 2 ^ min (ji50).toNat 64) = ji52 := hji52
                  have hji52z : (ji50) ≤ 64 → (a2 / 2 ^ (ji50).toNat) = ji52 := shr_small hji52
                  obtain rfl := Option.some.inj H
                  go_enter Try.func102, Try.ntmps102
                  go_wp2_with (first | ((with_reducible refine gate_callee (f := 130) rfl ?_); refine goesL_ (some 24) rfl rfl Try.func130 (by kernel_rfl) rfl #[.int .i64 a1, .int .i64 a2] rfl (by (try simp only [List.map_toArray, List.map_cons, List.map_nil]); first | done | rfl | (simp only [List.length_drop, List.length_take]; rfl)) ?_; (with_reducible refine (spec_l01Signed.calls a1 a2 t213 _ A11.out).mono ?_); rintro e w' ⟨rfl, ⟨nd, rfl⟩⟩; refine ⟨_, rfl, ?_⟩) | ((with_reducible refine gate_callee (f := 130) rfl ?_); refine goesL_ (some 27) rfl rfl Try.func130 (by kernel_rfl) rfl #[.int .i64 a1, .int .i64 a3] rfl (by (try simp only [List.map_toArray, List.map_cons, List.map_nil]); first | done | rfl | (simp only [List.length_drop, List.length_take]; rfl)) ?_; (with_reducible refine (spec_l01Signed.calls a1 a3 t214 _ A12.out).mono ?_); rintro e w' ⟨rfl, ⟨nd, rfl⟩⟩; refine ⟨_, rfl, ?_⟩))
                  go_ret
                  exact ⟨by first | rfl | (simp; done) | (simp only [← hji5, ← hji7, ← hji8, ← hji10, ← hji50, ← hji52] <;> (first | rfl | simp)) | (simp [*]; done), by repeat (first | exact Drawn0.refl _ | apply Drawn0.step)⟩
                 ·
                  rw [if_neg c49] at H
                  have c49b0 : (a0 == 16) = false := beq_eq_false_iff_ne.mpr c49
                  have c49b1 : (a0 != 16) = true := bne_iff_ne.mpr c49
                  obtain ⟨ji53, hji53⟩ : ∃ j_ : Int, (IntKind.u64.wrap (Int.tmod a3 a1)) = j_ := ⟨_, rfl⟩
                  replace H : (if 0 ≤ (ji53) then ((spec_l01Wrap.f a1 (shr .i64 t213 (ji53))).bind fun t231 => (some t231)) else (none)) = some r := by first | (rw [hji53] at H; exact H) | (simp only [hji53] at H ⊢; exact H)
                  (try rw [hji53] at A11)
                  (try rw [hji53] at A12)
                  replace H := ifp H; obtain ⟨c54, H⟩ := H
                  have c54b0 := eq_true c54
                  have c54b1 : decide (0 ≤ (ji53)) = true := decide_eq_true c54
                  clear c54
                  obtain ⟨ji55, hji55⟩ : ∃ j_ : Int, (shr .i64 t213 (ji53)) = j_ := ⟨_, rfl⟩
                  replace H : ((spec_l01Wrap.f a1 (ji55)).bind fun t231 => (some t231)) = some r := by first | (rw [hji55] at H; exact H) | (simp only [hji55] at H ⊢; exact H)
                  (try rw [hji55] at A11)
                  (try rw [hji55] at A12)
                  have hji55_ : (t213 / 2 ^ min (ji53).toNat 64) = ji55 := hji55
                  have hji55z : (ji53) ≤ 64 → (t213 / 2 ^ (ji53).toNat) = ji55 := shr_small hji55
                  replace H := Option.bind_eq_some_iff.mp H
                  obtain ⟨t231, A560, H⟩ := H
                  replace H : (some t231) = some r := H
                  have A56 := am A560
                  clear A560
                  obtain rfl := Option.some.inj H
                  go_enter Try.func102, Try.ntmps102
                  go_wp2_with (first | ((with_reducible refine gate_callee (f := 130) rfl ?_); refine goesL_ (some 24) rfl rfl Try.func130 (by kernel_rfl) rfl #[.int .i64 a1, .int .i64 a2] rfl (by (try simp only [List.map_toArray, List.map_cons, List.map_nil]); first | done | rfl | (simp only [List.length_drop, List.length_take]; rfl)) ?_; (with_reducible refine (spec_l01Signed.calls a1 a2 t213 _ A11.out).mono ?_); rintro e w' ⟨rfl, ⟨nd, rfl⟩⟩; refine ⟨_, rfl, ?_⟩) | ((with_reducible refine gate_callee (f := 130) rfl ?_); refine goesL_ (some 27) rfl rfl Try.func130 (by kernel_rfl) rfl #[.int .i64 a1, .int .i64 a3] rfl (by (try simp only [List.map_toArray, List.map_cons, List.map_nil]); first | done | rfl | (simp only [List.length_drop, List.length_take]; rfl)) ?_; (with_reducible refine (spec_l01Signed.calls a1 a3 t214 _ A12.out).mono ?_); rintro e w' ⟨rfl, ⟨nd, rfl⟩⟩; refine ⟨_, rfl, ?_⟩) | ((with_reducible refine gate_callee (f := 131) rfl ?_); refine goesL_ (some 153) rfl rfl Try.func131 (by kernel_rfl) rfl #[.int .i64 a1, .int .i64 ji55] rfl (by (try simp only [List.map_toArray, List.map_cons, List.map_nil]); first | done | (simp only [hji55]; rfl) | rfl | (simp only [List.length_drop, List.length_take]; rfl)) ?_; (with_reducible refine (spec_l01Wrap.calls a1 ji55 t231 _ A56.out).mono ?_); rintro e w' ⟨rfl, ⟨nd, rfl⟩⟩; refine ⟨_, rfl, ?_⟩))
                  go_ret
                  exact ⟨by first | rfl | (simp; done) | (simp only [← hji5, ← hji7, ← hji8, ← hji10, ← hji53, ← hji55] <;> (first | rfl | simp)) | (simp [*]; done), by repeat (first | exact Drawn0.refl _ | apply Drawn0.step)⟩
end Go.Proofs.Ytfpcfaapoeeipaa.P
