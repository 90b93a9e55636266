/- Contracts of functions of the given program, written by a program of this session out of the translation: each says that a call of the function does what the Lean function of its name says. -/
import Derived.Test.YtfpcfaapoeeipaaVcy0
import Derived.Test.YtfpcfaapoeeipaaVcp0
import Derived.Test.YtfpcfaapoeeipaaVcp1
import Derived.Test.YtfpcfaapoeeipaaVcp2
namespace Go.Proofs.Ytfpcfaapoeeipaa.P
open Go.RowKit Go.Proofs.YtfpcfaapoeeipaaW.PrintWords Go.Proofs.YtfpcfaapoeeipaaW.PrintLast Go.Proofs.YtfpcfaapoeeipaaW.PrintMore
attribute [local go_sem] max2_int min2_int max_two min_two
set_option linter.unusedVariables false
set_option linter.unusedSimpArgs false
def impl_result.f (a0 : Int) (a1 : Int) (a2 : Int) (a3 : Int) : Option (Int) := if 0 ≤ a1 then (if a1 = 0 then (none) else ((impl_signedOf.f a1 a2).bind fun t319 => ((impl_signedOf.f a1 a3).bind fun t320 => (if a0 = 0 then ((impl_wrapped.f a1 (wrap64 (a2 + a3))).bind fun t321 => (some t321)) else (if a0 = 1 then ((impl_wrapped.f a1 (wrap64 (a2 - a3))).bind fun t322 => (some t322)) else (if a0 = 2 then ((impl_wrapped.f a1 (wrap64 (a2 * a3))).bind fun t323 => (some t323)) else (if a0 = 3 then (some (Go.bits .and .i64 a2 a3)) else (if a0 = 4 then (some (Go.bits .or .i64 a2 a3)) else (if a0 = 5 then (some (Go.bits .xor .i64 a2 a3)) else (if a0 = 6 then (some (mn a2 a3)) else (if a0 = 7 then (some (mx a2 a3)) else (if a0 = 8 then ((impl_pick.f (decide (t319 ≤ t320)) a2 a3).bind fun t324 => (some t324)) else (if a0 = 9 then ((impl_pick.f (decide (t319 ≥ t320)) a2 a3).bind fun t325 => (some t325)) else (if a0 = 10 then ((impl_bounded.f (wrap64 (a2 + a3)) 0 (wrap64 ((shl .i64 1 a1) - 1))).bind fun t326 => (some t326)) else (if a0 = 11 then ((impl_nearest.f a1 (wrap64 (t319 + t320))).bind fun t327 => (some t327)) else (if a0 = 12 then ((impl_bounded.f (wrap64 (a2 - a3)) 0 (wrap64 ((shl .i64 1 a1) - 1))).bind fun t328 => (some t328)) else (if a0 = 13 then ((impl_nearest.f a1 (wrap64 (t319 - t320))).bind fun t329 => (some t329)) else (if a0 = 14 then (some (wrap64 (Int.tdiv (wrap64 ((wrap64 (a2 + a3)) + 1)) 2))) else (if a0 = 15 then (if 0 ≤ (Int.tmod a3 a1) then ((impl_wrapped.f a1 (shl .i64 a2 (Int.tmod a3 a1))).bind fun t330 => (some t330)) else (none)) else (if a0 = 16 then (if 0 ≤ (Int.tmod a3 a1) then (some (shr .i64 a2 (Int.tmod a3 a1))) else (none)) else (if 0 ≤ (Int.tmod a3 a1) then ((impl_wrapped.f a1 (shr .i64 t319 (Int.tmod a3 a1))).bind fun t331 => (some t331)) else (none)))))))))))))))))))))) else (none)
set_option maxHeartbeats 8000000 in
set_option maxRecDepth 100000 in
theorem impl_result.calls (a0 : Int) (a1 : Int) (a2 : Int) (a3 : Int) (r : Int) (w : World) (h : impl_result.f a0 a1 a2 a3 = some r) :
  Calls Try.prog 135 #[.int .i64 a0, .int .i64 a1, .int .i64 a2, .int .i64 a3] w fun e w' => e = .returned (.int .i64 r) ∧ Below w.heap.size w w' := by
 have HB := am (Below.refl w.heap.size w)
 have H : (if 0 ≤ a1 then (if a1 = 0 then (none) else ((impl_signedOf.f a1 a2).bind fun t319 => ((impl_signedOf.f a1 a3).bind fun t320 => (if a0 = 0 then ((impl_wrapped.f a1 (wrap64 (a2 + a3))).bind fun t321 => (some t321)) else (if a0 = 1 then ((impl_wrapped.f a1 (wrap64 (a2 - a3))).bind fun t322 => (some t322)) else (if a0 = 2 then ((impl_wrapped.f a1 (wrap64 (a2 * a3))).bind fun t323 => (some t323)) else (if a0 = 3 then (some (Go.bits .and .i64 a2 a3)) else (if a0 = 4 then (some (Go.bits .or .i64 a2 a3)) else (if a0 = 5 then (some (Go.bits .xor .i64 a2 a3)) else (if a0 = 6 then (some (mn a2 a3)) else (if a0 = 7 then (some (mx a2 a3)) else (if a0 = 8 then ((impl_pick.f (decide (t319 ≤ t320)) a2 a3).bind fun t324 => (some t324)) else (if a0 = 9 then ((impl_pick.f (decide (t319 ≥ t320)) a2 a3).bind fun t325 => (some t325)) else (if a0 = 10 then ((impl_bounded.f (wrap64 (a2 + a3)) 0 (wrap64 ((shl .i64 1 a1) - 1))).bind fun t326 => (some t326)) else (if a0 = 11 then ((impl_nearest.f a1 (wrap64 (t319 + t320))).bind fun t327 => (some t327)) else (if a0 = 12 then ((impl_bounded.f (wrap64 (a2 - a3)) 0 (wrap64 ((shl .i64 1 a1) - 1))).bind fun t328 => (some t328)) else (if a0 = 13 then ((impl_nearest.f a1 (wrap64 (t319 - t320))).bind fun t329 => (some t329)) else (if a0 = 14 then (some (wrap64 (Int.tdiv (wrap64 ((wrap64 (a2 + a3)) + 1)) 2))) else (if a0 = 15 then (if 0 ≤ (Int.tmod a3 a1) then ((impl_wrapped.f a1 (shl .i64 a2 (Int.tmod a3 a1))).bind fun t330 => (some t330)) else (none)) else (if a0 = 16 then (if 0 ≤ (Int.tmod a3 a1) then (some (shr .i64 a2 (Int.tmod a3 a1))) else (none)) else (if 0 ≤ (Int.tmod a3 a1) then ((impl_wrapped.f a1 (shr .i64 t319 (Int.tmod a3 a1))).bind fun t331 => (some t331)) else (none)))))))))))))))))))))) else (none)) = some r := h
 clear h
 replace H := ifp H; obtain ⟨c5, H⟩ := H
 have c5b0 := eq_true c5
 have c5b1 : decide (0 ≤ a1) = true := decide_eq_true c5
 clear c5
 obtain ⟨ji6, hji6⟩ : ∃ j_ : Int, (shl .i64 1 a1) = j_ := ⟨_, rfl⟩
 replace H : (if a1 = 0 then (none) else ((impl_signedOf.f a1 a2).bind fun t319 => ((impl_signedOf.f a1 a3).bind fun t320 => (if a0 = 0 then ((impl_wrapped.f a1 (wrap64 (a2 + a3))).bind fun t321 => (some t321)) else (if a0 = 1 then ((impl_wrapped.f a1 (wrap64 (a2 - a3))).bind fun t322 => (some t322)) else (if a0 = 2 then ((impl_wrapped.f a1 (wrap64 (a2 * a3))).bind fun t323 => (some t323)) else (if a0 = 3 then (some (Go.bits .and .i64 a2 a3)) else (if a0 = 4 then (some (Go.bits .or .i64 a2 a3)) else (if a0 = 5 then (some (Go.bits .xor .i64 a2 a3)) else (if a0 = 6 then (some (mn a2 a3)) else (if a0 = 7 then (some (mx a2 a3)) else (if a0 = 8 then ((impl_pick.f (decide (t319 ≤ t320)) a2 a3).bind fun t324 => (some t324)) else (if a0 = 9 then ((impl_pick.f (decide (t319 ≥ t320)) a2 a3).bind fun t325 => (some t325)) else (if a0 = 10 then ((impl_bounded.f (wrap64 (a2 + a3)) 0 (wrap64 ((ji6) - 1))).bind fun t326 => (some t326)) else (if a0 = 11 then ((impl_nearest.f a1 (wrap64 (t319 + t320))).bind fun t327 => (some t327)) else (if a0 = 12 then ((impl_bounded.f (wrap64 (a2 - a3)) 0 (wrap64 ((ji6) - 1))).bind fun t328 => (some t328)) else (if a0 = 13 then ((impl_nearest.f a1 (wrap64 (t319 - t320))).bind fun t329 => (some t329)) else (if a0 = 14 then (some (wrap64 (Int.tdiv (wrap64 ((wrap64 (a2 + a3)) + 1)) 2))) else (if a0 = 15 then (if 0 ≤ (Int.tmod a3 a1) then ((impl_wrapped.f a1 (shl .i64 a2 (Int.tmod a3 a1))).bind fun t330 => (some t330)) else (none)) else (if a0 = 16 then (if 0 ≤ (Int.tmod a3 a1) then (some (shr .i64 a2 (Int.tmod a3 a1))) else (none)) else (if 0 ≤ (Int.tmod a3 a1) then ((impl_wrapped.f a1 (shr .i64 t319 (Int.tmod a3 a1))).bind fun t331 => (some t331)) else (none)))))))))))))))))))))) = some r := by first | (rw [hji6] at H; exact H) | (simp only [hji6] at H ⊢; exact H)
 have hji6_ : (IntKind.i64.wrap (1 * 2 ^ min a1.toNat 64)) = ji6 := hji6
 have hji6z : a1 ≤ 64 → (IntKind.i64.wrap (1 * 2 ^ a1.toNat)) = ji6 := shl_small hji6
 have hji6u : (IntKind.i64.wrap (2 ^ min a1.toNat 64)) = ji6 := by have h_ := hji6_; rw [Int.one_mul] at h_; exact h_
 have hji6v : a1 ≤ 64 → (IntKind.i64.wrap (2 ^ a1.toNat)) = ji6 := fun hle_ => by have h_ := hji6z hle_; rw [Int.one_mul] at h_; exact h_
 have hji6y : (wrap64 (1 * 2 ^ min a1.toNat 64)) = ji6 := (i64_w _).symm.trans hji6_
 have hji6x : a1 ≤ 64 → (wrap64 (1 * 2 ^ a1.toNat)) = ji6 := fun h_ => (i64_w _).symm.trans (hji6z h_)
 replace H := ifq H; obtain ⟨c7, H⟩ := H
 have c7b0 : (a1 == 0) = false := beq_eq_false_iff_ne.mpr c7
 have c7b1 : (a1 != 0) = true := bne_iff_ne.mpr c7
 replace H := Option.bind_eq_some_iff.mp H
 obtain ⟨t319, A80, H⟩ := H
 replace H : ((impl_signedOf.f a1 a3).bind fun t320 => (if a0 = 0 then ((impl_wrapped.f a1 (wrap64 (a2 + a3))).bind fun t321 => (some t321)) else (if a0 = 1 then ((impl_wrapped.f a1 (wrap64 (a2 - a3))).bind fun t322 => (some t322)) else (if a0 = 2 then ((impl_wrapped.f a1 (wrap64 (a2 * a3))).bind fun t323 => (some t323)) else (if a0 = 3 then (some (Go.bits .and .i64 a2 a3)) else (if a0 = 4 then (some (Go.bits .or .i64 a2 a3)) else (if a0 = 5 then (some (Go.bits .xor .i64 a2 a3)) else (if a0 = 6 then (some (mn a2 a3)) else (if a0 = 7 then (some (mx a2 a3)) else (if a0 = 8 then ((impl_pick.f (decide (t319 ≤ t320)) a2 a3).bind fun t324 => (some t324)) else (if a0 = 9 then ((impl_pick.f (decide (t319 ≥ t320)) a2 a3).bind fun t325 => (some t325)) else (if a0 = 10 then ((impl_bounded.f (wrap64 (a2 + a3)) 0 (wrap64 ((ji6) - 1))).bind fun t326 => (some t326)) else (if a0 = 11 then ((impl_nearest.f a1 (wrap64 (t319 + t320))).bind fun t327 => (some t327)) else (if a0 = 12 then ((impl_bounded.f (wrap64 (a2 - a3)) 0 (wrap64 ((ji6) - 1))).bind fun t328 => (some t328)) else (if a0 = 13 then ((impl_nearest.f a1 (wrap64 (t319 - t320))).bind fun t329 => (some t329)) else (if a0 = 14 then (some (wrap64 (Int.tdiv (wrap64 ((wrap64 (a2 + a3)) + 1)) 2))) else (if a0 = 15 then (if 0 ≤ (Int.tmod a3 a1) then ((impl_wrapped.f a1 (shl .i64 a2 (Int.tmod a3 a1))).bind fun t330 => (some t330)) else (none)) else (if a0 = 16 then (if 0 ≤ (Int.tmod a3 a1) then (some (shr .i64 a2 (Int.tmod a3 a1))) else (none)) else (if 0 ≤ (Int.tmod a3 a1) then ((impl_wrapped.f a1 (shr .i64 t319 (Int.tmod a3 a1))).bind fun t331 => (some t331)) else (none)))))))))))))))))))) = some r := H
 have A8 := am A80
 clear A80
 replace H := Option.bind_eq_some_iff.mp H
 obtain ⟨t320, A90, H⟩ := H
 replace H : (if a0 = 0 then ((impl_wrapped.f a1 (wrap64 (a2 + a3))).bind fun t321 => (some t321)) else (if a0 = 1 then ((impl_wrapped.f a1 (wrap64 (a2 - a3))).bind fun t322 => (some t322)) else (if a0 = 2 then ((impl_wrapped.f a1 (wrap64 (a2 * a3))).bind fun t323 => (some t323)) else (if a0 = 3 then (some (Go.bits .and .i64 a2 a3)) else (if a0 = 4 then (some (Go.bits .or .i64 a2 a3)) else (if a0 = 5 then (some (Go.bits .xor .i64 a2 a3)) else (if a0 = 6 then (some (mn a2 a3)) else (if a0 = 7 then (some (mx a2 a3)) else (if a0 = 8 then ((impl_pick.f (decide (t319 ≤ t320)) a2 a3).bind fun t324 => (some t324)) else (if a0 = 9 then ((impl_pick.f (decide (t319 ≥ t320)) a2 a3).bind fun t325 => (some t325)) else (if a0 = 10 then ((impl_bounded.f (wrap64 (a2 + a3)) 0 (wrap64 ((ji6) - 1))).bind fun t326 => (some t326)) else (if a0 = 11 then ((impl_nearest.f a1 (wrap64 (t319 + t320))).bind fun t327 => (some t327)) else (if a0 = 12 then ((impl_bounded.f (wrap64 (a2 - a3)) 0 (wrap64 ((ji6) - 1))).bind fun t328 => (some t328)) else (if a0 = 13 then ((impl_nearest.f a1 (wrap64 (t319 - t320))).bind fun t329 => (some t329)) else (if a0 = 14 then (some (wrap64 (Int.tdiv (wrap64 ((wrap64 (a2 + a3)) + 1)) 2))) else (if a0 = 15 then (if 0 ≤ (Int.tmod a3 a1) then ((impl_wrapped.f a1 (shl .i64 a2 (Int.tmod a3 a1))).bind fun t330 => (some t330)) else (none)) else (if a0 = 16 then (if 0 ≤ (Int.tmod a3 a1) then (some (shr .i64 a2 (Int.tmod a3 a1))) else (none)) else (if 0 ≤ (Int.tmod a3 a1) then ((impl_wrapped.f a1 (shr .i64 t319 (Int.tmod a3 a1))).bind fun t331 => (some t331)) else (none))))))))))))))))))) = some r := H
 have A9 := am A90
 clear A90
 by_cases c10 : a0 = 0
 ·
  rw [if_pos c10] at H
  have c10b0 : (a0 == 0) = true := beq_iff_eq.mpr c10
  have c10b1 : (a0 != 0) = false := bne_eq_false_iff_eq.mpr c10
  clear c10
  replace H := Option.bind_eq_some_iff.mp H
  obtain ⟨t321, A110, H⟩ := H
  replace H : (some t321) = some r := H
  have A11 := am A110
  clear A110
  obtain rfl := Option.some.inj H
  go_enter Try.func135, Try.ntmps135
  go_wp2_with (first | (go_at_call 136; (with_reducible refine (impl_signedOf.calls a1 a2 t319 _ A8.out).mono ?_); rintro e w' ⟨rfl, ⟨nd, rfl⟩⟩; (try first | exact ⟨rfl, _, World.drewN_drewN _ _ _⟩ | exact ⟨rfl, _, Eq.trans (World.drewN_drewN _ _ _) (congrArg (World.drewN _) (Nat.add_assoc _ _ _))⟩)) | (go_at_call 136; (with_reducible refine (impl_signedOf.calls a1 a3 t320 _ A9.out).mono ?_); rintro e w' ⟨rfl, ⟨nd, rfl⟩⟩; (try first | exact ⟨rfl, _, World.drewN_drewN _ _ _⟩ | exact ⟨rfl, _, Eq.trans (World.drewN_drewN _ _ _) (congrArg (World.drewN _) (Nat.add_assoc _ _ _))⟩)) | (go_at_call 163; (with_reducible refine (impl_wrapped.calls a1 (wrap64 (a2 + a3)) t321 _ A11.out).mono ?_); rintro e w' ⟨rfl, ⟨nd, rfl⟩⟩; (try first | exact ⟨rfl, _, World.drewN_drewN _ _ _⟩ | exact ⟨rfl, _, Eq.trans (World.drewN_drewN _ _ _) (congrArg (World.drewN _) (Nat.add_assoc _ _ _))⟩)))
  repeat (go_quiet (first | (go_at_call 136; (with_reducible refine (impl_signedOf.calls a1 a2 t319 _ A8.out).mono ?_); rintro e w' ⟨rfl, ⟨nd, rfl⟩⟩; (try first | exact ⟨rfl, _, World.drewN_drewN _ _ _⟩ | exact ⟨rfl, _, Eq.trans (World.drewN_drewN _ _ _) (congrArg (World.drewN _) (Nat.add_assoc _ _ _))⟩)) | (go_at_call 136; (with_reducible refine (impl_signedOf.calls a1 a3 t320 _ A9.out).mono ?_); rintro e w' ⟨rfl, ⟨nd, rfl⟩⟩; (try first | exact ⟨rfl, _, World.drewN_drewN _ _ _⟩ | exact ⟨rfl, _, Eq.trans (World.drewN_drewN _ _ _) (congrArg (World.drewN _) (Nat.add_assoc _ _ _))⟩)) | (go_at_call 163; (with_reducible refine (impl_wrapped.calls a1 (wrap64 (a2 + a3)) t321 _ A11.out).mono ?_); rintro e w' ⟨rfl, ⟨nd, rfl⟩⟩; (try first | exact ⟨rfl, _, World.drewN_drewN _ _ _⟩ | exact ⟨rfl, _, Eq.trans (World.drewN_drewN _ _ _) (congrArg (World.drewN _) (Nat.add_assoc _ _ _))⟩))); try go_wp2_with (first | (go_at_call 136; (with_reducible refine (impl_signedOf.calls a1 a2 t319 _ A8.out).mono ?_); rintro e w' ⟨rfl, ⟨nd, rfl⟩⟩; (try first | exact ⟨rfl, _, World.drewN_drewN _ _ _⟩ | exact ⟨rfl, _, Eq.trans (World.drewN_drewN _ _ _) (congrArg (World.drewN _) (Nat.add_assoc _ _ _))⟩)) | (go_at_call 136; (with_reducible refine (impl_signedOf.calls a1 a3 t320 _ A9.out).mono ?_); rintro e w' ⟨rfl, ⟨nd, rfl⟩⟩; (try first | exact ⟨rfl, _, World.drewN_drewN _ _ _⟩ | exact ⟨rfl, _, Eq.trans (World.drewN_drewN _ _ _) (congrArg (World.drewN _) (Nat.add_assoc _ _ _))⟩)) | (go_at_call 163; (with_reducible refine (impl_wrapped.calls a1 (wrap64 (a2 + a3)) t321 _ A11.out).mono ?_); rintro e w' ⟨rfl, ⟨nd, rfl⟩⟩; (try first | exact ⟨rfl, _, World.drewN_drewN _ _ _⟩ | exact ⟨rfl, _, Eq.trans (World.drewN_drewN _ _ _) (congrArg (World.drewN _) (Nat.add_assoc _ _ _))⟩))))
  go_ret
  exact ⟨by first | rfl | (simp [errW_none, errW_some] <;> rfl) | (simp only [← hji6]; first | rfl | (simp [errW_none, errW_some] <;> rfl)) | (simp [*, errW_none, errW_some] <;> rfl), by repeat (first | (with_reducible first | exact HB.out | apply below_alloc | apply pw_below_drewN | apply below_drew1) | exact HB.out)⟩
 ·
  rw [if_neg c10] at H
  have c10b0 : (a0 == 0) = false := beq_eq_false_iff_ne.mpr c10
  have c10b1 : (a0 != 0) = true := bne_iff_ne.mpr c10
  by_cases c12 : a0 = 1
  ·
   rw [if_pos c12] at H
   have c12b0 : (a0 == 1) = true := beq_iff_eq.mpr c12
   have c12b1 : (a0 != 1) = false := bne_eq_false_iff_eq.mpr c12
   clear c12
   replace H := Option.bind_eq_some_iff.mp H
   obtain ⟨t322, A130, H⟩ := H
   replace H : (some t322) = some r := H
   have A13 := am A130
   clear A130
   obtain rfl := Option.some.inj H
   go_enter Try.func135, Try.ntmps135
   go_wp2_with (first | (go_at_call 136; (with_reducible refine (impl_signedOf.calls a1 a2 t319 _ A8.out).mono ?_); rintro e w' ⟨rfl, ⟨nd, rfl⟩⟩; (try first | exact ⟨rfl, _, World.drewN_drewN _ _ _⟩ | exact ⟨rfl, _, Eq.trans (World.drewN_drewN _ _ _) (congrArg (World.drewN _) (Nat.add_assoc _ _ _))⟩)) | (go_at_call 136; (with_reducible refine (impl_signedOf.calls a1 a3 t320 _ A9.out).mono ?_); rintro e w' ⟨rfl, ⟨nd, rfl⟩⟩; (try first | exact ⟨rfl, _, World.drewN_drewN _ _ _⟩ | exact ⟨rfl, _, Eq.trans (World.drewN_drewN _ _ _) (congrArg (World.drewN _) (Nat.add_assoc _ _ _))⟩)) | (go_at_call 163; (with_reducible refine (impl_wrapped.calls a1 (wrap64 (a2 - a3)) t322 _ A13.out).mono ?_); rintro e w' ⟨rfl, ⟨nd, rfl⟩⟩; (try first | exact ⟨rfl, _, World.drewN_drewN _ _ _⟩ | exact ⟨rfl, _, Eq.trans (World.drewN_drewN _ _ _) (congrArg (World.drewN _) (Nat.add_assoc _ _ _))⟩)))
   repeat (go_quiet (first | (go_at_call 136; (with_reducible refine (impl_signedOf.calls a1 a2 t319 _ A8.out).mono ?_); rintro e w' ⟨rfl, ⟨nd, rfl⟩⟩; (try first | exact ⟨rfl, _, World.drewN_drewN _ _ _⟩ | exact ⟨rfl, _, Eq.trans (World.drewN_drewN _ _ _) (congrArg (World.drewN _) (Nat.add_assoc _ _ _))⟩)) | (go_at_call 136; (with_reducible refine (impl_signedOf.calls a1 a3 t320 _ A9.out).mono ?_); rintro e w' ⟨rfl, ⟨nd, rfl⟩⟩; (try first | exact ⟨rfl, _, World.drewN_drewN _ _ _⟩ | exact ⟨rfl, _, Eq.trans (World.drewN_drewN _ _ _) (congrArg (World.drewN _) (Nat.add_assoc _ _ _))⟩)) | (go_at_call 163; (with_reducible refine (impl_wrapped.calls a1 (wrap64 (a2 - a3)) t322 _ A13.out).mono ?_); rintro e w' ⟨rfl, ⟨nd, rfl⟩⟩; (try first | exact ⟨rfl, _, World.drewN_drewN _ _ _⟩ | exact ⟨rfl, _, Eq.trans (World.drewN_drewN _ _ _) (congrArg (World.drewN _) (Nat.add_assoc _ _ _))⟩))); try go_wp2_with (first | (go_at_call 136; (with_reducible refine (impl_signedOf.calls a1 a2 t319 _ A8.out).mono ?_); rintro e w' ⟨rfl, ⟨nd, rfl⟩⟩; (try first | exact ⟨rfl, _, World.drewN_drewN _ _ _⟩ | exact ⟨rfl, _, Eq.trans (World.drewN_drewN _ _ _) (congrArg (World.drewN _) (Nat.add_assoc _ _ _))⟩)) | (go_at_call 136; (with_reducible refine (impl_signedOf.calls a1 a3 t320 _ A9.out).mono ?_); rintro e w' ⟨rfl, ⟨nd, rfl⟩⟩; (try first | exact ⟨rfl, _, World.drewN_drewN _ _ _⟩ | exact ⟨rfl, _, Eq.trans (World.drewN_drewN _ _ _) (congrArg (World.drewN _) (Nat.add_assoc _ _ _))⟩)) | (go_at_call 163; (with_reducible refine (impl_wrapped.calls a1 (wrap64 (a2 - a3)) t322 _ A13.out).mono ?_); rintro e w' ⟨rfl, ⟨nd, rfl⟩⟩; (try first | exact ⟨rfl, _, World.drewN_drewN _ _ _⟩ | exact ⟨rfl, _, Eq.trans (World.drewN_drewN _ _ _) (congrArg (World.drewN _) (Nat.add_assoc _ _ _))⟩))))
   go_ret
   exact ⟨by first | rfl | (simp [errW_none, errW_some] <;> rfl) | (simp only [← hji6]; first | rfl | (simp [errW_none, errW_some] <;> rfl)) | (simp [*, errW_none, errW_some] <;> rfl), by repeat (first | (with_reducible first | exact HB.out | apply below_alloc | apply pw_below_drewN | apply below_drew1) | exact HB.out)⟩
  ·
   rw [if_neg c12] at H
   have c12b0 : (a0 == 1) = false := beq_eq_false_iff_ne.mpr c12
   have c12b1 : (a0 != 1) = true := bne_iff_ne.mpr c12
   by_cases c14 : a0 = 2
   ·
    rw [if_pos c14] at H
    have c14b0 : (a0 == 2) = true := beq_iff_eq.mpr c14
    have c14b1 : (a0 != 2) = false := bne_eq_false_iff_eq.mpr c14
    clear c14
    replace H := Option.bind_eq_some_iff.mp H
    obtain ⟨t323, A150, H⟩ := H
    replace H : (some t323) = some r := H
    have A15 := am A150
    clear A150
    obtain rfl := Option.some.inj H
    go_enter Try.func135, Try.ntmps135
    go_wp2_with (first | (go_at_call 136; (with_reducible refine (impl_signedOf.calls a1 a2 t319 _ A8.out).mono ?_); rintro e w' ⟨rfl, ⟨nd, rfl⟩⟩; (try first | exact ⟨rfl, _, World.drewN_drewN _ _ _⟩ | exact ⟨rfl, _, Eq.trans (World.drewN_drewN _ _ _) (congrArg (World.drewN _) (Nat.add_assoc _ _ _))⟩)) | (go_at_call 136; (with_reducible refine (impl_signedOf.calls a1 a3 t320 _ A9.out).mono ?_); rintro e w' ⟨rfl, ⟨nd, rfl⟩⟩; (try first | exact ⟨rfl, _, World.drewN_drewN _ _ _⟩ | exact ⟨rfl, _, Eq.trans (World.drewN_drewN _ _ _) (congrArg (World.drewN _) (Nat.add_assoc _ _ _))⟩)) | (go_at_call 163; (with_reducible refine (impl_wrapped.calls a1 (wrap64 (a2 * a3)) t323 _ A15.out).mono ?_); rintro e w' ⟨rfl, ⟨nd, rfl⟩⟩; (try first | exact ⟨rfl, _, World.drewN_drewN _ _ _⟩ | exact ⟨rfl, _, Eq.trans (World.drewN_drewN _ _ _) (congrArg (World.drewN _) (Nat.add_assoc _ _ _))⟩)))
    repeat (go_quiet (first | (go_at_call 136; (with_reducible refine (impl_signedOf.calls a1 a2 t319 _ A8.out).mono ?_); rintro e w' ⟨rfl, ⟨nd, rfl⟩⟩; (try first | exact ⟨rfl, _, World.drewN_drewN _ _ _⟩ | exact ⟨rfl, _, Eq.trans (World.drewN_drewN _ _ _) (congrArg (World.drewN _) (Nat.add_assoc _ _ _))⟩)) | (go_at_call 136; (with_reducible refine (impl_signedOf.calls a1 a3 t320 _ A9.out).mono ?_); rintro e w' ⟨rfl, ⟨nd, rfl⟩⟩; (try first | exact ⟨rfl, _, World.drewN_drewN _ _ _⟩ | exact ⟨rfl, _, Eq.trans (World.drewN_drewN _ _ _) (congrArg (World.drewN _) (Nat.add_assoc _ _ _))⟩)) | (go_at_call 163; (with_reducible refine (impl_wrapped.calls a1 (wrap64 (a2 * a3)) t323 _ A15.out).mono ?_); rintro e w' ⟨rfl, ⟨nd, rfl⟩⟩; (try first | exact ⟨rfl, _, World.drewN_drewN _ _ _⟩ | exact ⟨rfl, _, Eq.trans (World.drewN_drewN _ _ _) (congrArg (World.drewN _) (Nat.add_assoc _ _ _))⟩))); try go_wp2_with (first | (go_at_call 136; (with_reducible refine (impl_signedOf.calls a1 a2 t319 _ A8.out).mono ?_); rintro e w' ⟨rfl, ⟨nd, rfl⟩⟩; (try first | exact ⟨rfl, _, World.drewN_drewN _ _ _⟩ | exact ⟨rfl, _, Eq.trans (World.drewN_drewN _ _ _) (congrArg (World.drewN _) (Nat.add_assoc _ _ _))⟩)) | (go_at_call 136; (with_reducible refine (impl_signedOf.calls a1 a3 t320 _ A9.out).mono ?_); rintro e w' ⟨rfl, ⟨nd, rfl⟩⟩; (try first | exact ⟨rfl, _, World.drewN_drewN _ _ _⟩ | exact ⟨rfl, _, Eq.trans (World.drewN_drewN _ _ _) (congrArg (World.drewN _) (Nat.add_assoc _ _ _))⟩)) | (go_at_call 163; (with_reducible refine (impl_wrapped.calls a1 (wrap64 (a2 * a3)) t323 _ A15.out).mono ?_); rintro e w' ⟨rfl, ⟨nd, rfl⟩⟩; (try first | exact ⟨rfl, _, World.drewN_drewN _ _ _⟩ | exact ⟨rfl, _, Eq.trans (World.drewN_drewN _ _ _) (congrArg (World.drewN _) (Nat.add_assoc _ _ _))⟩))))
    go_ret
    exact ⟨by first | rfl | (simp [errW_none, errW_some] <;> rfl) | (simp only [← hji6]; first | rfl | (simp [errW_none, errW_some] <;> rfl)) | (simp [*, errW_none, errW_some] <;> rfl), by repeat (first | (with_reducible first | exact HB.out | apply below_alloc | apply pw_below_drewN | apply below_drew1) | exact HB.out)⟩
   ·
    rw [if_neg c14] at H
    have c14b0 : (a0 == 2) = false := beq_eq_false_iff_ne.mpr c14
    have c14b1 : (a0 != 2) = true := bne_iff_ne.mpr c14
    by_cases c16 : a0 = 3
    ·
     rw [if_pos c16] at H
     have c16b0 : (a0 == 3) = true := beq_iff_eq.mpr c16
     have c16b1 : (a0 != 3) = false := bne_eq_false_iff_eq.mpr c16
     clear c16
     obtain rfl := Option.some.inj H
     go_enter Try.func135, Try.ntmps135
     go_wp2_with (first | (go_at_call 136; (with_reducible refine (impl_signedOf.calls a1 a2 t319 _ A8.out).mono ?_); rintro e w' ⟨rfl, ⟨nd, rfl⟩⟩; (try first | exact ⟨rfl, _, World.drewN_drewN _ _ _⟩ | exact ⟨rfl, _, Eq.trans (World.drewN_drewN _ _ _) (congrArg (World.drewN _) (Nat.add_assoc _ _ _))⟩)) | (go_at_call 136; (with_reducible refine (impl_signedOf.calls a1 a3 t320 _ A9.out).mono ?_); rintro e w' ⟨rfl, ⟨nd, rfl⟩⟩; (try first | exact ⟨rfl, _, World.drewN_drewN _ _ _⟩ | exact ⟨rfl, _, Eq.trans (World.drewN_drewN _ _ _) (congrArg (World.drewN _) (Nat.add_assoc _ _ _))⟩)))
     repeat (go_quiet (first | (go_at_call 136; (with_reducible refine (impl_signedOf.calls a1 a2 t319 _ A8.out).mono ?_); rintro e w' ⟨rfl, ⟨nd, rfl⟩⟩; (try first | exact ⟨rfl, _, World.drewN_drewN _ _ _⟩ | exact ⟨rfl, _, Eq.trans (World.drewN_drewN _ _ _) (congrArg (World.drewN _) (Nat.add_assoc _ _ _))⟩)) | (go_at_call 136; (with_reducible refine (impl_signedOf.calls a1 a3 t320 _ A9.out).mono ?_); rintro e w' ⟨rfl, ⟨nd, rfl⟩⟩; (try first | exact ⟨rfl, _, World.drewN_drewN _ _ _⟩ | exact ⟨rfl, _, Eq.trans (World.drewN_drewN _ _ _) (congrArg (World.drewN _) (Nat.add_assoc _ _ _))⟩))); try go_wp2_with (first | (go_at_call 136; (with_reducible refine (impl_signedOf.calls a1 a2 t319 _ A8.out).mono ?_); rintro e w' ⟨rfl, ⟨nd, rfl⟩⟩; (try first | exact ⟨rfl, _, World.drewN_drewN _ _ _⟩ | exact ⟨rfl, _, Eq.trans (World.drewN_drewN _ _ _) (congrArg (World.drewN _) (Nat.add_assoc _ _ _))⟩)) | (go_at_call 136; (with_reducible refine (impl_signedOf.calls a1 a3 t320 _ A9.out).mono ?_); rintro e w' ⟨rfl, ⟨nd, rfl⟩⟩; (try first | exact ⟨rfl, _, World.drewN_drewN _ _ _⟩ | exact ⟨rfl, _, Eq.trans (World.drewN_drewN _ _ _) (congrArg (World.drewN _) (Nat.add_assoc _ _ _))⟩))))
     go_ret
     exact ⟨by first | rfl | (simp [errW_none, errW_some] <;> rfl) | (simp only [← hji6]; first | rfl | (simp [errW_none, errW_some] <;> rfl)) | (simp [*, errW_none, errW_some] <;> rfl), by repeat (first | (with_reducible first | exact HB.out | apply below_alloc | apply pw_below_drewN | apply below_drew1) | exact HB.out)⟩
    ·
     rw [if_neg c16] at H
     have c16b0 : (a0 == 3) = false := beq_eq_false_iff_ne.mpr c16
     have c16b1 : (a0 != 3) = true := bne_iff_ne.mpr c16
     by_cases c17 : a0 = 4
     ·
      rw [if_pos c17] at H
      have c17b0 : (a0 == 4) = true := beq_iff_eq.mpr c17
      have c17b1 : (a0 != 4) = false := bne_eq_false_iff_eq.mpr c17
      clear c17
      obtain rfl := Option.some.inj H
      go_enter Try.func135, Try.ntmps135
      go_wp2_with (first | (go_at_call 136; (with_reducible refine (impl_signedOf.calls a1 a2 t319 _ A8.out).mono ?_); rintro e w' ⟨rfl, ⟨nd, rfl⟩⟩; (try first | exact ⟨rfl, _, World.drewN_drewN _ _ _⟩ | exact ⟨rfl, _, Eq.trans (World.drewN_drewN _ _ _) (congrArg (World.drewN _) (Nat.add_assoc _ _ _))⟩)) | (go_at_call 136; (with_reducible refine (impl_signedOf.calls a1 a3 t320 _ A9.out).mono ?_); rintro e w' ⟨rfl, ⟨nd, rfl⟩⟩; (try first | exact ⟨rfl, _, World.drewN_drewN _ _ _⟩ | exact ⟨rfl, _, Eq.trans (World.drewN_drewN _ _ _) (congrArg (World.drewN _) (Nat.add_assoc _ _ _))⟩)))
      repeat (go_quiet (first | (go_at_call 136; (with_reducible refine (impl_signedOf.calls a1 a2 t319 _ A8.out).mono ?_); rintro e w' ⟨rfl, ⟨nd, rfl⟩⟩; (try first | exact ⟨rfl, _, World.drewN_drewN _ _ _⟩ | exact ⟨rfl, _, Eq.trans (World.drewN_drewN _ _ _) (congrArg (World.drewN _) (Nat.add_assoc _ _ _))⟩)) | (go_at_call 136; (with_reducible refine (impl_signedOf.calls a1 a3 t320 _ A9.out).mono ?_); rintro e w' ⟨rfl, ⟨nd, rfl⟩⟩; (try first | exact ⟨rfl, _, World.drewN_drewN _ _ _⟩ | exact ⟨rfl, _, Eq.trans (World.drewN_drewN _ _ _) (congrArg (World.drewN _) (Nat.add_assoc _ _ _))⟩))); try go_wp2_with (first | (go_at_call 136; (with_reducible refine (impl_signedOf.calls a1 a2 t319 _ A8.out).mono ?_); rintro e w' ⟨rfl, ⟨nd, rfl⟩⟩; (try first | exact ⟨rfl, _, World.drewN_drewN _ _ _⟩ | exact ⟨rfl, _, Eq.trans (World.drewN_drewN _ _ _) (congrArg (World.drewN _) (Nat.add_assoc _ _ _))⟩)) | (go_at_call 136; (with_reducible refine (impl_signedOf.calls a1 a3 t320 _ A9.out).mono ?_); rintro e w' ⟨rfl, ⟨nd, rfl⟩⟩; (try first | exact ⟨rfl, _, World.drewN_drewN _ _ _⟩ | exact ⟨rfl, _, Eq.trans (World.drewN_drewN _ _ _) (congrArg (World.drewN _) (Nat.add_assoc _ _ _))⟩))))
      go_ret
      exact ⟨by first | rfl | (simp [errW_none, errW_some] <;> rfl) | (simp only [← hji6]; first | rfl | (simp [errW_none, errW_some] <;> rfl)) | (simp [*, errW_none, errW_some] <;> rfl), by repeat (first | (with_reducible first | exact HB.out | apply below_alloc | apply pw_below_drewN | apply below_drew1) | exact HB.out)⟩
     ·
      rw [if_neg c17] at H
      have c17b0 : (a0 == 4) = false := beq_eq_false_iff_ne.mpr c17
      have c17b1 : (a0 != 4) = true := bne_iff_ne.mpr c17
      by_cases c18 : a0 = 5
      ·
       rw [if_pos c18] at H
       have c18b0 : (a0 == 5) = true := beq_iff_eq.mpr c18
       have c18b1 : (a0 != 5) = false := bne_eq_false_iff_eq.mpr c18
       clear c18
       obtain rfl := Option.some.inj H
       go_enter Try.func135, Try.ntmps135
       go_wp2_with (first | (go_at_call 136; (with_reducible refine (impl_signedOf.calls a1 a2 t319 _ A8.out).mono ?_); rintro e w' ⟨rfl, ⟨nd, rfl⟩⟩; (try first | exact ⟨rfl, _, World.drewN_drewN _ _ _⟩ | exact ⟨rfl, _, Eq.trans (World.drewN_drewN _ _ _) (congrArg (World.drewN _) (Nat.add_assoc _ _ _))⟩)) | (go_at_call 136; (with_reducible refine (impl_signedOf.calls a1 a3 t320 _ A9.out).mono ?_); rintro e w' ⟨rfl, ⟨nd, rfl⟩⟩; (try first | exact ⟨rfl, _, World.drewN_drewN _ _ _⟩ | exact ⟨rfl, _, Eq.trans (World.drewN_drewN _ _ _) (congrArg (World.drewN _) (Nat.add_assoc _ _ _))⟩)))
       repeat (go_quiet (first | (go_at_call 136; (with_reducible refine (impl_signedOf.calls a1 a2 t319 _ A8.out).mono ?_); rintro e w' ⟨rfl, ⟨nd, rfl⟩⟩; (try first | exact ⟨rfl, _, World.drewN_drewN _ _ _⟩ | exact ⟨rfl, _, Eq.trans (World.drewN_drewN _ _ _) (congrArg (World.drewN _) (Nat.add_assoc _ _ _))⟩)) | (go_at_call 136; (with_reducible refine (impl_signedOf.calls a1 a3 t320 _ A9.out).mono ?_); rintro e w' ⟨rfl, ⟨nd, rfl⟩⟩; (try first | exact ⟨rfl, _, World.drewN_drewN _ _ _⟩ | exact ⟨rfl, _, Eq.trans (World.drewN_drewN _ _ _) (congrArg (World.drewN _) (Nat.add_assoc _ _ _))⟩))); try go_wp2_with (first | (go_at_call 136; (with_reducible refine (impl_signedOf.calls a1 a2 t319 _ A8.out).mono ?_); rintro e w' ⟨rfl, ⟨nd, rfl⟩⟩; (try first | exact ⟨rfl, _, World.drewN_drewN _ _ _⟩ | exact ⟨rfl, _, Eq.trans (World.drewN_drewN _ _ _) (congrArg (World.drewN _) (Nat.add_assoc _ _ _))⟩)) | (go_at_call 136; (with_reducible refine (impl_signedOf.calls a1 a3 t320 _ A9.out).mono ?_); rintro e w' ⟨rfl, ⟨nd, rfl⟩⟩; (try first | exact ⟨rfl, _, World.drewN_drewN _ _ _⟩ | exact ⟨rfl, _, Eq.trans (World.drewN_drewN _ _ _) (congrArg (World.drewN _) (Nat.add_assoc _ _ _))⟩))))
       go_ret
       exact ⟨by first | rfl | (simp [errW_none, errW_some] <;> rfl) | (simp only [← hji6]; first | rfl | (simp [errW_none, errW_some] <;> rfl)) | (simp [*, errW_none, errW_some] <;> rfl), by repeat (first | (with_reducible first | exact HB.out | apply below_alloc | apply pw_below_drewN | apply below_drew1) | exact HB.out)⟩
      ·
       rw [if_neg c18] at H
       have c18b0 : (a0 == 5) = false := beq_eq_false_iff_ne.mpr c18
       have c18b1 : (a0 != 5) = true := bne_iff_ne.mpr c18
       by_cases c19 : a0 = 6
       ·
        rw [if_pos c19] at H
        have c19b0 : (a0 == 6) = true := beq_iff_eq.mpr c19
        have c19b1 : (a0 != 6) = false := bne_eq_false_iff_eq.mpr c19
        clear c19
        obtain ⟨ji20, hji20⟩ : ∃ j_ : Int, (mn a2 a3) = j_ := ⟨_, rfl⟩
        replace H : (some ji20) = some r := by first | (rw [hji20] at H; exact H) | (simp only [hji20] at H ⊢; exact H)
        (try rw [hji20] at A8)
        (try rw [hji20] at A9)
        have hji20_ : (if a3 < a2 then a3 else a2) = ji20 := hji20
        obtain rfl := Option.some.inj H
        go_enter Try.func135, Try.ntmps135
        go_wp2_with (first | (go_at_call 136; (with_reducible refine (impl_signedOf.calls a1 a2 t319 _ A8.out).mono ?_); rintro e w' ⟨rfl, ⟨nd, rfl⟩⟩; (try first | exact ⟨rfl, _, World.drewN_drewN _ _ _⟩ | exact ⟨rfl, _, Eq.trans (World.drewN_drewN _ _ _) (congrArg (World.drewN _) (Nat.add_assoc _ _ _))⟩)) | (go_at_call 136; (with_reducible refine (impl_signedOf.calls a1 a3 t320 _ A9.out).mono ?_); rintro e w' ⟨rfl, ⟨nd, rfl⟩⟩; (try first | exact ⟨rfl, _, World.drewN_drewN _ _ _⟩ | exact ⟨rfl, _, Eq.trans (World.drewN_drewN _ _ _) (congrArg (World.drewN _) (Nat.add_assoc _ _ _))⟩)))
        repeat (go_quiet (first | (go_at_call 136; (with_reducible refine (impl_signedOf.calls a1 a2 t319 _ A8.out).mono ?_); rintro e w' ⟨rfl, ⟨nd, rfl⟩⟩; (try first | exact ⟨rfl, _, World.drewN_drewN _ _ _⟩ | exact ⟨rfl, _, Eq.trans (World.drewN_drewN _ _ _) (congrArg (World.drewN _) (Nat.add_assoc _ _ _))⟩)) | (go_at_call 136; (with_reducible refine (impl_signedOf.calls a1 a3 t320 _ A9.out).mono ?_); rintro e w' ⟨rfl, ⟨nd, rfl⟩⟩; (try first | exact ⟨rfl, _, World.drewN_drewN _ _ _⟩ | exact ⟨rfl, _, Eq.trans (World.drewN_drewN _ _ _) (congrArg (World.drewN _) (Nat.add_assoc _ _ _))⟩))); try go_wp2_with (first | (go_at_call 136; (with_reducible refine (impl_signedOf.calls a1 a2 t319 _ A8.out).mono ?_); rintro e w' ⟨rfl, ⟨nd, rfl⟩⟩; (try first | exact ⟨rfl, _, World.drewN_drewN _ _ _⟩ | exact ⟨rfl, _, Eq.trans (World.drewN_drewN _ _ _) (congrArg (World.drewN _) (Nat.add_assoc _ _ _))⟩)) | (go_at_call 136; (with_reducible refine (impl_signedOf.calls a1 a3 t320 _ A9.out).mono ?_); rintro e w' ⟨rfl, ⟨nd, rfl⟩⟩; (try first | exact ⟨rfl, _, World.drewN_drewN _ _ _⟩ | exact ⟨rfl, _, Eq.trans (World.drewN_drewN _ _ _) (congrArg (World.drewN _) (Nat.add_assoc _ _ _))⟩))))
        go_ret
        exact ⟨by first | rfl | (simp [errW_none, errW_some] <;> rfl) | (simp only [← hji6, ← hji20]; first | rfl | (simp [errW_none, errW_some] <;> rfl)) | (simp [*, errW_none, errW_some] <;> rfl), by repeat (first | (with_reducible first | exact HB.out | apply below_alloc | apply pw_below_drewN | apply below_drew1) | exact HB.out)⟩
       ·
        rw [if_neg c19] at H
        have c19b0 : (a0 == 6) = false := beq_eq_false_iff_ne.mpr c19
        have c19b1 : (a0 != 6) = true := bne_iff_ne.mpr c19
        by_cases c21 : a0 = 7
        ·
         rw [if_pos c21] at H
         have c21b0 : (a0 == 7) = true := beq_iff_eq.mpr c21
         have c21b1 : (a0 != 7) = false := bne_eq_false_iff_eq.mpr c21
         clear c21
         obtain ⟨ji22, hji22⟩ : ∃ j_ : Int, (mx a2 a3) = j_ := ⟨_, rfl⟩
         replace H : (some ji22) = some r := by first | (rw [hji22] at H; exact H) | (simp only [hji22] at H ⊢; exact H)
         (try rw [hji22] at A8)
         (try rw [hji22] at A9)
         have hji22_ : (if a2 < a3 then a3 else a2) = ji22 := hji22
         obtain rfl := Option.some.inj H
         go_enter Try.func135, Try.ntmps135
         go_wp2_with (first | (go_at_call 136; (with_reducible refine (impl_signedOf.calls a1 a2 t319 _ A8.out).mono ?_); rintro e w' ⟨rfl, ⟨nd, rfl⟩⟩; (try first | exact ⟨rfl, _, World.drewN_drewN _ _ _⟩ | exact ⟨rfl, _, Eq.trans (World.drewN_drewN _ _ _) (congrArg (World.drewN _) (Nat.add_assoc _ _ _))⟩)) | (go_at_call 136; (with_reducible refine (impl_signedOf.calls a1 a3 t320 _ A9.out).mono ?_); rintro e w' ⟨rfl, ⟨nd, rfl⟩⟩; (try first | exact ⟨rfl, _, World.drewN_drewN _ _ _⟩ | exact ⟨rfl, _, Eq.trans (World.drewN_drewN _ _ _) (congrArg (World.drewN _) (Nat.add_assoc _ _ _))⟩)))
         repeat (go_quiet (first | (go_at_call 136; (with_reducible refine (impl_signedOf.calls a1 a2 t319 _ A8.out).mono ?_); rintro e w' ⟨rfl, ⟨nd, rfl⟩⟩; (try first | exact ⟨rfl, _, World.drewN_drewN _ _ _⟩ | exact ⟨rfl, _, Eq.trans (World.drewN_drewN _ _ _) (congrArg (World.drewN _) (Nat.add_assoc _ _ _))⟩)) | (go_at_call 136; (with_reducible refine (impl_signedOf.calls a1 a3 t320 _ A9.out).mono ?_); rintro e w' ⟨rfl, ⟨nd, rfl⟩⟩; (try first | exact ⟨rfl, _, World.drewN_drewN _ _ _⟩ | exact ⟨rfl, _, Eq.trans (World.drewN_drewN _ _ _) (congrArg (World.drewN _) (Nat.add_assoc _ _ _))⟩))); try go_wp2_with (first | (go_at_call 136; (with_reducible refine (impl_signedOf.calls a1 a2 t319 _ A8.out).mono ?_); rintro e w' ⟨rfl, ⟨nd, rfl⟩⟩; (try first | exact ⟨rfl, _, World.drewN_drewN _ _ _⟩ | exact ⟨rfl, _, Eq.trans (World.drewN_drewN _ _ _) (congrArg (World.drewN _) (Nat.add_assoc _ _ _))⟩)) | (go_at_call 136; (with_reducible refine (impl_signedOf.calls a1 a3 t320 _ A9.out).mono ?_); rintro e w' ⟨rfl, ⟨nd, rfl⟩⟩; (try first | exact ⟨rfl, _, World.drewN_drewN _ _ _⟩ | exact ⟨rfl, _, Eq.trans (World.drewN_drewN _ _ _) (congrArg (World.drewN _) (Nat.add_assoc _ _ _))⟩))))
         go_ret
         exact ⟨by first | rfl | (simp [errW_none, errW_some] <;> rfl) | (simp only [← hji6, ← hji22]; first | rfl | (simp [errW_none, errW_some] <;> rfl)) | (simp [*, errW_none, errW_some] <;> rfl), by repeat (first | (with_reducible first | exact HB.out | apply below_alloc | apply pw_below_drewN | apply below_drew1) | exact HB.out)⟩
        ·
         rw [if_neg c21] at H
         have c21b0 : (a0 == 7) = false := beq_eq_false_iff_ne.mpr c21
         have c21b1 : (a0 != 7) = true := bne_iff_ne.mpr c21
         by_cases c23 : a0 = 8
         ·
          rw [if_pos c23] at H
          have c23b0 : (a0 == 8) = true := beq_iff_eq.mpr c23
          have c23b1 : (a0 != 8) = false := bne_eq_false_iff_eq.mpr c23
          clear c23
          replace H := Option.bind_eq_some_iff.mp H
          obtain ⟨t324, A240, H⟩ := H
          replace H : (some t324) = some r := H
          have A24 := am A240
          clear A240
          obtain rfl := Option.some.inj H
          go_enter Try.func135, Try.ntmps135
          go_wp2_with (first | (go_at_call 136; (with_reducible refine (impl_signedOf.calls a1 a2 t319 _ A8.out).mono ?_); rintro e w' ⟨rfl, ⟨nd, rfl⟩⟩; (try first | exact ⟨rfl, _, World.drewN_drewN _ _ _⟩ | exact ⟨rfl, _, Eq.trans (World.drewN_drewN _ _ _) (congrArg (World.drewN _) (Nat.add_assoc _ _ _))⟩)) | (go_at_call 136; (with_reducible refine (impl_signedOf.calls a1 a3 t320 _ A9.out).mono ?_); rintro e w' ⟨rfl, ⟨nd, rfl⟩⟩; (try first | exact ⟨rfl, _, World.drewN_drewN _ _ _⟩ | exact ⟨rfl, _, Eq.trans (World.drewN_drewN _ _ _) (congrArg (World.drewN _) (Nat.add_assoc _ _ _))⟩)) | (go_at_call 164; (with_reducible refine (impl_pick.calls (decide (t319 ≤ t320)) a2 a3 t324 _ A24.out).mono ?_); rintro e w' ⟨rfl, ⟨nd, rfl⟩⟩; (try first | exact ⟨rfl, _, World.drewN_drewN _ _ _⟩ | exact ⟨rfl, _, Eq.trans (World.drewN_drewN _ _ _) (congrArg (World.drewN _) (Nat.add_assoc _ _ _))⟩)))
          repeat (go_quiet (first | (go_at_call 136; (with_reducible refine (impl_signedOf.calls a1 a2 t319 _ A8.out).mono ?_); rintro e w' ⟨rfl, ⟨nd, rfl⟩⟩; (try first | exact ⟨rfl, _, World.drewN_drewN _ _ _⟩ | exact ⟨rfl, _, Eq.trans (World.drewN_drewN _ _ _) (congrArg (World.drewN _) (Nat.add_assoc _ _ _))⟩)) | (go_at_call 136; (with_reducible refine (impl_signedOf.calls a1 a3 t320 _ A9.out).mono ?_); rintro e w' ⟨rfl, ⟨nd, rfl⟩⟩; (try first | exact ⟨rfl, _, World.drewN_drewN _ _ _⟩ | exact ⟨rfl, _, Eq.trans (World.drewN_drewN _ _ _) (congrArg (World.drewN _) (Nat.add_assoc _ _ _))⟩)) | (go_at_call 164; (with_reducible refine (impl_pick.calls (decide (t319 ≤ t320)) a2 a3 t324 _ A24.out).mono ?_); rintro e w' ⟨rfl, ⟨nd, rfl⟩⟩; (try first | exact ⟨rfl, _, World.drewN_drewN _ _ _⟩ | exact ⟨rfl, _, Eq.trans (World.drewN_drewN _ _ _) (congrArg (World.drewN _) (Nat.add_assoc _ _ _))⟩))); try go_wp2_with (first | (go_at_call 136; (with_reducible refine (impl_signedOf.calls a1 a2 t319 _ A8.out).mono ?_); rintro e w' ⟨rfl, ⟨nd, rfl⟩⟩; (try first | exact ⟨rfl, _, World.drewN_drewN _ _ _⟩ | exact ⟨rfl, _, Eq.trans (World.drewN_drewN _ _ _) (congrArg (World.drewN _) (Nat.add_assoc _ _ _))⟩)) | (go_at_call 136; (with_reducible refine (impl_signedOf.calls a1 a3 t320 _ A9.out).mono ?_); rintro e w' ⟨rfl, ⟨nd, rfl⟩⟩; (try first | exact ⟨rfl, _, World.drewN_drewN _ _ _⟩ | exact ⟨rfl, _, Eq.trans (World.drewN_drewN _ _ _) (congrArg (World.drewN _) (Nat.add_assoc _ _ _))⟩)) | (go_at_call 164; (with_reducible refine (impl_pick.calls (decide (t319 ≤ t320)) a2 a3 t324 _ A24.out).mono ?_); rintro e w' ⟨rfl, ⟨nd, rfl⟩⟩; (try first | exact ⟨rfl, _, World.drewN_drewN _ _ _⟩ | exact ⟨rfl, _, Eq.trans (World.drewN_drewN _ _ _) (congrArg (World.drewN _) (Nat.add_assoc _ _ _))⟩))))
          go_ret
          exact ⟨by first | rfl | (simp [errW_none, errW_some] <;> rfl) | (simp only [← hji6]; first | rfl | (simp [errW_none, errW_some] <;> rfl)) | (simp [*, errW_none, errW_some] <;> rfl), by repeat (first | (with_reducible first | exact HB.out | apply below_alloc | apply pw_below_drewN | apply below_drew1) | exact HB.out)⟩
         ·
          rw [if_neg c23] at H
          have c23b0 : (a0 == 8) = false := beq_eq_false_iff_ne.mpr c23
          have c23b1 : (a0 != 8) = true := bne_iff_ne.mpr c23
          by_cases c25 : a0 = 9
          ·
           rw [if_pos c25] at H
           have c25b0 : (a0 == 9) = true := beq_iff_eq.mpr c25
           have c25b1 : (a0 != 9) = false := bne_eq_false_iff_eq.mpr c25
           clear c25
           replace H := Option.bind_eq_some_iff.mp H
           obtain ⟨t325, A260, H⟩ := H
           replace H : (some t325) = some r := H
           have A26 := am A260
           clear A260
           obtain rfl := Option.some.inj H
           go_enter Try.func135, Try.ntmps135
           go_wp2_with (first | (go_at_call 136; (with_reducible refine (impl_signedOf.calls a1 a2 t319 _ A8.out).mono ?_); rintro e w' ⟨rfl, ⟨nd, rfl⟩⟩; (try first | exact ⟨rfl, _, World.drewN_drewN _ _ _⟩ | exact ⟨rfl, _, Eq.trans (World.drewN_drewN _ _ _) (congrArg (World.drewN _) (Nat.add_assoc _ _ _))⟩)) | (go_at_call 136; (with_reducible refine (impl_signedOf.calls a1 a3 t320 _ A9.out).mono ?_); rintro e w' ⟨rfl, ⟨nd, rfl⟩⟩; (try first | exact ⟨rfl, _, World.drewN_drewN _ _ _⟩ | exact ⟨rfl, _, Eq.trans (World.drewN_drewN _ _ _) (congrArg (World.drewN _) (Nat.add_assoc _ _ _))⟩)) | (go_at_call 164; (with_reducible refine (impl_pick.calls (decide (t319 ≥ t320)) a2 a3 t325 _ A26.out).mono ?_); rintro e w' ⟨rfl, ⟨nd, rfl⟩⟩; (try first | exact ⟨rfl, _, World.drewN_drewN _ _ _⟩ | exact ⟨rfl, _, Eq.trans (World.drewN_drewN _ _ _) (congrArg (World.drewN _) (Nat.add_assoc _ _ _))⟩)))
           repeat (go_quiet (first | (go_at_call 136; (with_reducible refine (impl_signedOf.calls a1 a2 t319 _ A8.out).mono ?_); rintro e w' ⟨rfl, ⟨nd, rfl⟩⟩; (try first | exact ⟨rfl, _, World.drewN_drewN _ _ _⟩ | exact ⟨rfl, _, Eq.trans (World.drewN_drewN _ _ _) (congrArg (World.drewN _) (Nat.add_assoc _ _ _))⟩)) | (go_at_call 136; (with_reducible refine (impl_signedOf.calls a1 a3 t320 _ A9.out).mono ?_); rintro e w' ⟨rfl, ⟨nd, rfl⟩⟩; (try first | exact ⟨rfl, _, World.drewN_drewN _ _ _⟩ | exact ⟨rfl, _, Eq.trans (World.drewN_drewN _ _ _) (congrArg (World.drewN _) (Nat.add_assoc _ _ _))⟩)) | (go_at_call 164; (with_reducible refine (impl_pick.calls (decide (t319 ≥ t320)) a2 a3 t325 _ A26.out).mono ?_); rintro e w' ⟨rfl, ⟨nd, rfl⟩⟩; (try first | exact ⟨rfl, _, World.drewN_drewN _ _ _⟩ | exact ⟨rfl, _, Eq.trans (World.drewN_drewN _ _ _) (congrArg (World.drewN _) (Nat.add_assoc _ _ _))⟩))); try go_wp2_with (first | (go_at_call 136; (with_reducible refine (impl_signedOf.calls a1 a2 t319 _ A8.out).mono ?_); rintro e w' ⟨rfl, ⟨nd, rfl⟩⟩; (try first | exact ⟨rfl, _, World.drewN_drewN _ _ _⟩ | exact ⟨rfl, _, Eq.trans (World.drewN_drewN _ _ _) (congrArg (World.drewN _) (Nat.add_assoc _ _ _))⟩)) | (go_at_call 136; (with_reducible refine (impl_signedOf.calls a1 a3 t320 _ A9.out).mono ?_); rintro e w' ⟨rfl, ⟨nd, rfl⟩⟩; (try first | exact ⟨rfl, _, World.drewN_drewN _ _ _⟩ | exact ⟨rfl, _, Eq.trans (World.drewN_drewN _ _ _) (congrArg (World.drewN _) (Nat.add_assoc _ _ _))⟩)) | (go_at_call 164; (with_reducible refine (impl_pick.calls (decide (t319 ≥ t320)) a2 a3 t325 _ A26.out).mono ?_); rintro e w' ⟨rfl, ⟨nd, rfl⟩⟩; (try first | exact ⟨rfl, _, World.drewN_drewN _ _ _⟩ | exact ⟨rfl, _, Eq.trans (World.drewN_drewN _ _ _) (congrArg (World.drewN _) (Nat.add_assoc _ _ _))⟩))))
           go_ret
           exact ⟨by first | rfl | (simp [errW_none, errW_some] <;> rfl) | (simp only [← hji6]; first | rfl | (simp [errW_none, errW_some] <;> rfl)) | (simp [*, errW_none, errW_some] <;> rfl), by repeat (first | (with_reducible first | exact HB.out | apply below_alloc | apply pw_below_drewN | apply below_drew1) | exact HB.out)⟩
          ·
           rw [if_neg c25] at H
           have c25b0 : (a0 == 9) = false := beq_eq_false_iff_ne.mpr c25
           have c25b1 : (a0 != 9) = true := bne_iff_ne.mpr c25
           by_cases c27 : a0 = 10
           ·
            rw [if_pos c27] at H
            have c27b0 : (a0 == 10) = true := beq_iff_eq.mpr c27
            have c27b1 : (a0 != 10) = false := bne_eq_false_iff_eq.mpr c27
            clear c27
            replace H := Option.bind_eq_some_iff.mp H
            obtain ⟨t326, A280, H⟩ := H
            replace H : (some t326) = some r := H
            have A28 := am A280
            clear A280
            obtain rfl := Option.some.inj H
            go_enter Try.func135, Try.ntmps135
            go_wp2_with (first | (go_at_call 136; (with_reducible refine (impl_signedOf.calls a1 a2 t319 _ A8.out).mono ?_); rintro e w' ⟨rfl, ⟨nd, rfl⟩⟩; (try first | exact ⟨rfl, _, World.drewN_drewN _ _ _⟩ | exact ⟨rfl, _, Eq.trans (World.drewN_drewN _ _ _) (congrArg (World.drewN _) (Nat.add_assoc _ _ _))⟩)) | (go_at_call 136; (with_reducible refine (impl_signedOf.calls a1 a3 t320 _ A9.out).mono ?_); rintro e w' ⟨rfl, ⟨nd, rfl⟩⟩; (try first | exact ⟨rfl, _, World.drewN_drewN _ _ _⟩ | exact ⟨rfl, _, Eq.trans (World.drewN_drewN _ _ _) (congrArg (World.drewN _) (Nat.add_assoc _ _ _))⟩)) | (go_at_call 165; (with_reducible refine (impl_bounded.calls (wrap64 (a2 + a3)) 0 (wrap64 ((ji6) - 1)) t326 _ A28.out).mono ?_); rintro e w29 ⟨rfl, hb⟩; have n0_ := am (below_step (bst HB) hb); clear HB; have HB := n0_; clear n0_; (try clear hb); (try clear hb2); (try clear hk); (try clear hi)))
            repeat (go_quiet (first | (go_at_call 136; (with_reducible refine (impl_signedOf.calls a1 a2 t319 _ A8.out).mono ?_); rintro e w' ⟨rfl, ⟨nd, rfl⟩⟩; (try first | exact ⟨rfl, _, World.drewN_drewN _ _ _⟩ | exact ⟨rfl, _, Eq.trans (World.drewN_drewN _ _ _) (congrArg (World.drewN _) (Nat.add_assoc _ _ _))⟩)) | (go_at_call 136; (with_reducible refine (impl_signedOf.calls a1 a3 t320 _ A9.out).mono ?_); rintro e w' ⟨rfl, ⟨nd, rfl⟩⟩; (try first | exact ⟨rfl, _, World.drewN_drewN _ _ _⟩ | exact ⟨rfl, _, Eq.trans (World.drewN_drewN _ _ _) (congrArg (World.drewN _) (Nat.add_assoc _ _ _))⟩)) | (go_at_call 165; (with_reducible refine (impl_bounded.calls (wrap64 (a2 + a3)) 0 (wrap64 ((ji6) - 1)) t326 _ A28.out).mono ?_); rintro e w29 ⟨rfl, hb⟩; have n0_ := am (below_step (bst HB) hb); clear HB; have HB := n0_; clear n0_; (try clear hb); (try clear hb2); (try clear hk); (try clear hi))); try go_wp2_with (first | (go_at_call 136; (with_reducible refine (impl_signedOf.calls a1 a2 t319 _ A8.out).mono ?_); rintro e w' ⟨rfl, ⟨nd, rfl⟩⟩; (try first | exact ⟨rfl, _, World.drewN_drewN _ _ _⟩ | exact ⟨rfl, _, Eq.trans (World.drewN_drewN _ _ _) (congrArg (World.drewN _) (Nat.add_assoc _ _ _))⟩)) | (go_at_call 136; (with_reducible refine (impl_signedOf.calls a1 a3 t320 _ A9.out).mono ?_); rintro e w' ⟨rfl, ⟨nd, rfl⟩⟩; (try first | exact ⟨rfl, _, World.drewN_drewN _ _ _⟩ | exact ⟨rfl, _, Eq.trans (World.drewN_drewN _ _ _) (congrArg (World.drewN _) (Nat.add_assoc _ _ _))⟩)) | (go_at_call 165; (with_reducible refine (impl_bounded.calls (wrap64 (a2 + a3)) 0 (wrap64 ((ji6) - 1)) t326 _ A28.out).mono ?_); rintro e w29 ⟨rfl, hb⟩; have n0_ := am (below_step (bst HB) hb); clear HB; have HB := n0_; clear n0_; (try clear hb); (try clear hb2); (try clear hk); (try clear hi))))
            go_ret
            exact ⟨by first | rfl | (simp [errW_none, errW_some] <;> rfl) | (simp only [← hji6]; first | rfl | (simp [errW_none, errW_some] <;> rfl)) | (simp [*, errW_none, errW_some] <;> rfl), by repeat (first | (with_reducible first | exact HB.out | apply below_alloc | apply pw_below_drewN | apply below_drew1) | exact HB.out)⟩
           ·
            rw [if_neg c27] at H
            have c27b0 : (a0 == 10) = false := beq_eq_false_iff_ne.mpr c27
            have c27b1 : (a0 != 10) = true := bne_iff_ne.mpr c27
            by_cases c30 : a0 = 11
            ·
             rw [if_pos c30] at H
             have c30b0 : (a0 == 11) = true := beq_iff_eq.mpr c30
             have c30b1 : (a0 != 11) = false := bne_eq_false_iff_eq.mpr c30
             clear c30
             replace H := Option.bind_eq_some_iff.mp H
             obtain ⟨t327, A310, H⟩ := H
             replace H : (some t327) = some r := H
             have A31 := am A310
             clear A310
             obtain rfl := Option.some.inj H
             go_enter Try.func135, Try.ntmps135
             go_wp2_with (first | (go_at_call 136; (with_reducible refine (impl_signedOf.calls a1 a2 t319 _ A8.out).mono ?_); rintro e w' ⟨rfl, ⟨nd, rfl⟩⟩; (try first | exact ⟨rfl, _, World.drewN_drewN _ _ _⟩ | exact ⟨rfl, _, Eq.trans (World.drewN_drewN _ _ _) (congrArg (World.drewN _) (Nat.add_assoc _ _ _))⟩)) | (go_at_call 136; (with_reducible refine (impl_signedOf.calls a1 a3 t320 _ A9.out).mono ?_); rintro e w' ⟨rfl, ⟨nd, rfl⟩⟩; (try first | exact ⟨rfl, _, World.drewN_drewN _ _ _⟩ | exact ⟨rfl, _, Eq.trans (World.drewN_drewN _ _ _) (congrArg (World.drewN _) (Nat.add_assoc _ _ _))⟩)) | (go_at_call 166; (with_reducible refine (impl_nearest.calls a1 (wrap64 (t319 + t320)) t327 _ A31.out).mono ?_); rintro e w32 ⟨rfl, hb⟩; have n0_ := am (below_step (bst HB) hb); clear HB; have HB := n0_; clear n0_; (try clear hb); (try clear hb2); (try clear hk); (try clear hi)))
             repeat (go_quiet (first | (go_at_call 136; (with_reducible refine (impl_signedOf.calls a1 a2 t319 _ A8.out).mono ?_); rintro e w' ⟨rfl, ⟨nd, rfl⟩⟩; (try first | exact ⟨rfl, _, World.drewN_drewN _ _ _⟩ | exact ⟨rfl, _, Eq.trans (World.drewN_drewN _ _ _) (congrArg (World.drewN _) (Nat.add_assoc _ _ _))⟩)) | (go_at_call 136; (with_reducible refine (impl_signedOf.calls a1 a3 t320 _ A9.out).mono ?_); rintro e w' ⟨rfl, ⟨nd, rfl⟩⟩; (try first | exact ⟨rfl, _, World.drewN_drewN _ _ _⟩ | exact ⟨rfl, _, Eq.trans (World.drewN_drewN _ _ _) (congrArg (World.drewN _) (Nat.add_assoc _ _ _))⟩)) | (go_at_call 166; (with_reducible refine (impl_nearest.calls a1 (wrap64 (t319 + t320)) t327 _ A31.out).mono ?_); rintro e w32 ⟨rfl, hb⟩; have n0_ := am (below_step (bst HB) hb); clear HB; have HB := n0_; clear n0_; (try clear hb); (try clear hb2); (try clear hk); (try clear hi))); try go_wp2_with (first | (go_at_call 136; (with_reducible refine (impl_signedOf.calls a1 a2 t319 _ A8.out).mono ?_); rintro e w' ⟨rfl, ⟨nd, rfl⟩⟩; (try first | exact ⟨rfl, _, World.drewN_drewN _ _ _⟩ | exact ⟨rfl, _, Eq.trans (World.drewN_drewN _ _ _) (congrArg (World.drewN _) (Nat.add_assoc _ _ _))⟩)) | (go_at_call 136; (with_reducible refine (impl_signedOf.calls a1 a3 t320 _ A9.out).mono ?_); rintro e w' ⟨rfl, ⟨nd, rfl⟩⟩; (try first | exact ⟨rfl, _, World.drewN_drewN _ _ _⟩ | exact ⟨rfl, _, Eq.trans (World.drewN_drewN _ _ _) (congrArg (World.drewN _) (Nat.add_assoc _ _ _))⟩)) | (go_at_call 166; (with_reducible refine (impl_nearest.calls a1 (wrap64 (t319 + t320)) t327 _ A31.out).mono ?_); rintro e w32 ⟨rfl, hb⟩; have n0_ := am (below_step (bst HB) hb); clear HB; have HB := n0_; clear n0_; (try clear hb); (try clear hb2); (try clear hk); (try clear hi))))
             go_ret
             exact ⟨by first | rfl | (simp [errW_none, errW_some] <;> rfl) | (simp only [← hji6]; first | rfl | (simp [errW_none, errW_some] <;> rfl)) | (simp [*, errW_none, errW_some] <;> rfl), by repeat (first | (with_reducible first | exact HB.out | apply below_alloc | apply pw_below_drewN | apply below_drew1) | exact HB.out)⟩
            ·
             rw [if_neg c30] at H
             have c30b0 : (a0 == 11) = false := beq_eq_false_iff_ne.mpr c30
             have c30b1 : (a0 != 11) = true := bne_iff_ne.mpr c30
             by_cases c33 : a0 = 12
             ·
              rw [if_pos c33] at H
              have c33b0 : (a0 == 12) = true := beq_iff_eq.mpr c33
              have c33b1 : (a0 != 12) = false := bne_eq_false_iff_eq.mpr c33
              clear c33
              replace H := Option.bind_eq_some_iff.mp H
              obtain ⟨t328, A340, H⟩ := H
              replace H : (some t328) = some r := H
              have A34 := am A340
              clear A340
              obtain rfl := Option.some.inj H
              go_enter Try.func135, Try.ntmps135
              go_wp2_with (first | (go_at_call 136; (with_reducible refine (impl_signedOf.calls a1 a2 t319 _ A8.out).mono ?_); rintro e w' ⟨rfl, ⟨nd, rfl⟩⟩; (try first | exact ⟨rfl, _, World.drewN_drewN _ _ _⟩ | exact ⟨rfl, _, Eq.trans (World.drewN_drewN _ _ _) (congrArg (World.drewN _) (Nat.add_assoc _ _ _))⟩)) | (go_at_call 136; (with_reducible refine (impl_signedOf.calls a1 a3 t320 _ A9.out).mono ?_); rintro e w' ⟨rfl, ⟨nd, rfl⟩⟩; (try first | exact ⟨rfl, _, World.drewN_drewN _ _ _⟩ | exact ⟨rfl, _, Eq.trans (World.drewN_drewN _ _ _) (congrArg (World.drewN _) (Nat.add_assoc _ _ _))⟩)) | (go_at_call 165; (with_reducible refine (impl_bounded.calls (wrap64 (a2 - a3)) 0 (wrap64 ((ji6) - 1)) t328 _ A34.out).mono ?_); rintro e w35 ⟨rfl, hb⟩; have n0_ := am (below_step (bst HB) hb); clear HB; have HB := n0_; clear n0_; (try clear hb); (try clear hb2); (try clear hk); (try clear hi)))
              repeat (go_quiet (first | (go_at_call 136; (with_reducible refine (impl_signedOf.calls a1 a2 t319 _ A8.out).mono ?_); rintro e w' ⟨rfl, ⟨nd, rfl⟩⟩; (try first | exact ⟨rfl, _, World.drewN_drewN _ _ _⟩ | exact ⟨rfl, _, Eq.trans (World.drewN_drewN _ _ _) (congrArg (World.drewN _) (Nat.add_assoc _ _ _))⟩)) | (go_at_call 136; (with_reducible refine (impl_signedOf.calls a1 a3 t320 _ A9.out).mono ?_); rintro e w' ⟨rfl, ⟨nd, rfl⟩⟩; (try first | exact ⟨rfl, _, World.drewN_drewN _ _ _⟩ | exact ⟨rfl, _, Eq.trans (World.drewN_drewN _ _ _) (congrArg (World.drewN _) (Nat.add_assoc _ _ _))⟩)) | (go_at_call 165; (with_reducible refine (impl_bounded.calls (wrap64 (a2 - a3)) 0 (wrap64 ((ji6) - 1)) t328 _ A34.out).mono ?_); rintro e w35 ⟨rfl, hb⟩; have n0_ := am (below_step (bst HB) hb); clear HB; have HB := n0_; clear n0_; (try clear hb); (try clear hb2); (try clear hk); (try clear hi))); try go_wp2_with (first | (go_at_call 136; (with_reducible refine (impl_signedOf.calls a1 a2 t319 _ A8.out).mono ?_); rintro e w' ⟨rfl, ⟨nd, rfl⟩⟩; (try first | exact ⟨rfl, _, World.drewN_drewN _ _ _⟩ | exact ⟨rfl, _, Eq.trans (World.drewN_drewN _ _ _) (congrArg (World.drewN _) (Nat.add_assoc _ _ _))⟩)) | (go_at_call 136; (with_reducible refine (impl_signedOf.calls a1 a3 t320 _ A9.out).mono ?_); rintro e w' ⟨rfl, ⟨nd, rfl⟩⟩; (try first | exact ⟨rfl, _, World.drewN_drewN _ _ _⟩ | exact ⟨rfl, _, Eq.trans (World.drewN_drewN _ _ _) (congrArg (World.drewN _) (Nat.add_assoc _ _ _))⟩)) | (go_at_call 165; (with_reducible refine (impl_bounded.calls (wrap64 (a2 - a3)) 0 (wrap64 ((ji6) - 1)) t328 _ A34.out).mono ?_); rintro e w35 ⟨rfl, hb⟩; have n0_ := am (below_step (bst HB) hb); clear HB; have HB := n0_; clear n0_; (try clear hb); (try clear hb2); (try clear hk); (try clear hi))))
              go_ret
              exact ⟨by first | rfl | (simp [errW_none, errW_some] <;> rfl) | (simp only [← hji6]; first | rfl | (simp [errW_none, errW_some] <;> rfl)) | (simp [*, errW_none, errW_some] <;> rfl), by repeat (first | (with_reducible first | exact HB.out | apply below_alloc | apply pw_below_drewN | apply below_drew1) | exact HB.out)⟩
             ·
              rw [if_neg c33] at H
              have c33b0 : (a0 == 12) = false := beq_eq_false_iff_ne.mpr c33
              have c33b1 : (a0 != 12) = true := bne_iff_ne.mpr c33
              by_cases c36 : a0 = 13
              ·
               rw [if_pos c36] at H
               have c36b0 : (a0 == 13) = true := beq_iff_eq.mpr c36
               have c36b1 : (a0 != 13) = false := bne_eq_false_iff_eq.mpr c36
               clear c36
               replace H := Option.bind_eq_some_iff.mp H
               obtain ⟨t329, A370, H⟩ := H
               replace H : (some t329) = some r := H
               have A37 := am A370
               clear A370
               obtain rfl := Option.some.inj H
               go_enter Try.func135, Try.ntmps135
               go_wp2_with (first | (go_at_call 136; (with_reducible refine (impl_signedOf.calls a1 a2 t319 _ A8.out).mono ?_); rintro e w' ⟨rfl, ⟨nd, rfl⟩⟩; (try first | exact ⟨rfl, _, World.drewN_drewN _ _ _⟩ | exact ⟨rfl, _, Eq.trans (World.drewN_drewN _ _ _) (congrArg (World.drewN _) (Nat.add_assoc _ _ _))⟩)) | (go_at_call 136; (with_reducible refine (impl_signedOf.calls a1 a3 t320 _ A9.out).mono ?_); rintro e w' ⟨rfl, ⟨nd, rfl⟩⟩; (try first | exact ⟨rfl, _, World.drewN_drewN _ _ _⟩ | exact ⟨rfl, _, Eq.trans (World.drewN_drewN _ _ _) (congrArg (World.drewN _) (Nat.add_assoc _ _ _))⟩)) | (go_at_call 166; (with_reducible refine (impl_nearest.calls a1 (wrap64 (t319 - t320)) t329 _ A37.out).mono ?_); rintro e w38 ⟨rfl, hb⟩; have n0_ := am (below_step (bst HB) hb); clear HB; have HB := n0_; clear n0_; (try clear hb); (try clear hb2); (try clear hk); (try clear hi)))
               repeat (go_quiet (first | (go_at_call 136; (with_reducible refine (impl_signedOf.calls a1 a2 t319 _ A8.out).mono ?_); rintro e w' ⟨rfl, ⟨nd, rfl⟩⟩; (try first | exact ⟨rfl, _, World.drewN_drewN _ _ _⟩ | exact ⟨rfl, _, Eq.trans (World.drewN_drewN _ _ _) (congrArg (World.drewN _) (Nat.add_assoc _ _ _))⟩)) | (go_at_call 136; (with_reducible refine (impl_signedOf.calls a1 a3 t320 _ A9.out).mono ?_); rintro e w' ⟨rfl, ⟨nd, rfl⟩⟩; (try first | exact ⟨rfl, _, World.drewN_drewN _ _ _⟩ | exact ⟨rfl, _, Eq.trans (World.drewN_drewN _ _ _) (congrArg (World.drewN _) (Nat.add_assoc _ _ _))⟩)) | (go_at_call 166; (with_reducible refine (impl_nearest.calls a1 (wrap64 (t319 - t320)) t329 _ A37.out).mono ?_); rintro e w38 ⟨rfl, hb⟩; have n0_ := am (below_step (bst HB) hb); clear HB; have HB := n0_; clear n0_; (try clear hb); (try clear hb2); (try clear hk); (try clear hi))); try go_wp2_with (first | (go_at_call 136; (with_reducible refine (impl_signedOf.calls a1 a2 t319 _ A8.out).mono ?_); rintro e w' ⟨rfl, ⟨nd, rfl⟩⟩; (try first | exact ⟨rfl, _, World.drewN_drewN _ _ _⟩ | exact ⟨rfl, _, Eq.trans (World.drewN_drewN _ _ _) (congrArg (World.drewN _) (Nat.add_assoc _ _ _))⟩)) | (go_at_call 136; (with_reducible refine (impl_signedOf.calls a1 a3 t320 _ A9.out).mono ?_); rintro e w' ⟨rfl, ⟨nd, rfl⟩⟩; (try first | exact ⟨rfl, _, World.drewN_drewN _ _ _⟩ | exact ⟨rfl, _, Eq.trans (World.drewN_drewN _ _ _) (congrArg (World.drewN _) (Nat.add_assoc _ _ _))⟩)) | (go_at_call 166; (with_reducible refine (impl_nearest.calls a1 (wrap64 (t319 - t320)) t329 _ A37.out).mono ?_); rintro e w38 ⟨rfl, hb⟩; have n0_ := am (below_step (bst HB) hb); clear HB; have HB := n0_; clear n0_; (try clear hb); (try clear hb2); (try clear hk); (try clear hi))))
               go_ret
               exact ⟨by first | rfl | (simp [errW_none, errW_some] <;> rfl) | (simp only [← hji6]; first | rfl | (simp [errW_none, errW_some] <;> rfl)) | (simp [*, errW_none, errW_some] <;> rfl), by repeat (first | (with_reducible first | exact HB.out | apply below_alloc | apply pw_below_drewN | apply below_drew1) | exact HB.out)⟩
              ·
               rw [if_neg c36] at H
               have c36b0 : (a0 == 13) = false := beq_eq_false_iff_ne.mpr c36
               have c36b1 : (a0 != 13) = true := bne_iff_ne.mpr c36
               by_cases c39 : a0 = 14
               ·
                rw [if_pos c39] at H
                have c39b0 : (a0 == 14) = true := beq_iff_eq.mpr c39
                have c39b1 : (a0 != 14) = false := bne_eq_false_iff_eq.mpr c39
                clear c39
                obtain rfl := Option.some.inj H
                go_enter Try.func135, Try.ntmps135
                go_wp2_with (first | (go_at_call 136; (with_reducible refine (impl_signedOf.calls a1 a2 t319 _ A8.out).mono ?_); rintro e w' ⟨rfl, ⟨nd, rfl⟩⟩; (try first | exact ⟨rfl, _, World.drewN_drewN _ _ _⟩ | exact ⟨rfl, _, Eq.trans (World.drewN_drewN _ _ _) (congrArg (World.drewN _) (Nat.add_assoc _ _ _))⟩)) | (go_at_call 136; (with_reducible refine (impl_signedOf.calls a1 a3 t320 _ A9.out).mono ?_); rintro e w' ⟨rfl, ⟨nd, rfl⟩⟩; (try first | exact ⟨rfl, _, World.drewN_drewN _ _ _⟩ | exact ⟨rfl, _, Eq.trans (World.drewN_drewN _ _ _) (congrArg (World.drewN _) (Nat.add_assoc _ _ _))⟩)))
                repeat (go_quiet (first | (go_at_call 136; (with_reducible refine (impl_signedOf.calls a1 a2 t319 _ A8.out).mono ?_); rintro e w' ⟨rfl, ⟨nd, rfl⟩⟩; (try first | exact ⟨rfl, _, World.drewN_drewN _ _ _⟩ | exact ⟨rfl, _, Eq.trans (World.drewN_drewN _ _ _) (congrArg (World.drewN _) (Nat.add_assoc _ _ _))⟩)) | (go_at_call 136; (with_reducible refine (impl_signedOf.calls a1 a3 t320 _ A9.out).mono ?_); rintro e w' ⟨rfl, ⟨nd, rfl⟩⟩; (try first | exact ⟨rfl, _, World.drewN_drewN _ _ _⟩ | exact ⟨rfl, _, Eq.trans (World.drewN_drewN _ _ _) (congrArg (World.drewN _) (Nat.add_assoc _ _ _))⟩))); try go_wp2_with (first | (go_at_call 136; (with_reducible refine (impl_signedOf.calls a1 a2 t319 _ A8.out).mono ?_); rintro e w' ⟨rfl, ⟨nd, rfl⟩⟩; (try first | exact ⟨rfl, _, World.drewN_drewN _ _ _⟩ | exact ⟨rfl, _, Eq.trans (World.drewN_drewN _ _ _) (congrArg (World.drewN _) (Nat.add_assoc _ _ _))⟩)) | (go_at_call 136; (with_reducible refine (impl_signedOf.calls a1 a3 t320 _ A9.out).mono ?_); rintro e w' ⟨rfl, ⟨nd, rfl⟩⟩; (try first | exact ⟨rfl, _, World.drewN_drewN _ _ _⟩ | exact ⟨rfl, _, Eq.trans (World.drewN_drewN _ _ _) (congrArg (World.drewN _) (Nat.add_assoc _ _ _))⟩))))
                go_ret
                exact ⟨by first | rfl | (simp [errW_none, errW_some] <;> rfl) | (simp only [← hji6]; first | rfl | (simp [errW_none, errW_some] <;> rfl)) | (simp [*, errW_none, errW_some] <;> rfl), by repeat (first | (with_reducible first | exact HB.out | apply below_alloc | apply pw_below_drewN | apply below_drew1) | exact HB.out)⟩
               ·
                rw [if_neg c39] at H
                have c39b0 : (a0 == 14) = false := beq_eq_false_iff_ne.mpr c39
                have c39b1 : (a0 != 14) = true := bne_iff_ne.mpr c39
                by_cases c40 : a0 = 15
                ·
                 rw [if_pos c40] at H
                 have c40b0 : (a0 == 15) = true := beq_iff_eq.mpr c40
                 have c40b1 : (a0 != 15) = false := bne_eq_false_iff_eq.mpr c40
                 clear c40
                 obtain ⟨ji41, hji41⟩ : ∃ j_ : Int, (Int.tmod a3 a1) = j_ := ⟨_, rfl⟩
                 replace H : (if 0 ≤ (ji41) then ((impl_wrapped.f a1 (shl .i64 a2 (ji41))).bind fun t330 => (some t330)) else (none)) = some r := by first | (rw [hji41] at H; exact H) | (simp only [hji41] at H ⊢; exact H)
                 (try rw [hji41] at A8)
                 (try rw [hji41] at A9)
                 replace H := ifp H; obtain ⟨c42, H⟩ := H
                 have c42b0 := eq_true c42
                 have c42b1 : decide (0 ≤ (ji41)) = true := decide_eq_true c42
                 clear c42
                 obtain ⟨ji43, hji43⟩ : ∃ j_ : Int, (shl .i64 a2 (ji41)) = j_ := ⟨_, rfl⟩
                 replace H : ((impl_wrapped.f a1 (ji43)).bind fun t330 => (some t330)) = some r := by first | (rw [hji43] at H; exact H) | (simp only [hji43] at H ⊢; exact H)
                 (try rw [hji43] at A8)
                 (try rw [hji43] at A9)
                 have hji43_ : (IntKind.i64.wrap (a2 * 2 ^ min (ji41).toNat 64)) = ji43 := hji43
                 have hji43z : (ji41) ≤ 64 → (IntKind.i64.wrap (a2 * 2 ^ (ji41).toNat)) = ji43 := shl_small hji43
                 have hji43y : (wrap64 (a2 * 2 ^ min (ji41).toNat 64)) = ji43 := (i64_w _).symm.trans hji43_
                 have hji43x : (ji41) ≤ 64 → (wrap64 (a2 * 2 ^ (ji41).toNat)) = ji43 := fun h_ => (i64_w _).symm.trans (hji43z h_)
                 replace H := Option.bind_eq_some_iff.mp H
                 obtain ⟨t330, A440, H⟩ := H
                 replace H : (some t330) = some r := H
                 have A44 := am A440
                 clear A440
                 obtain rfl := Option.some.inj H
                 go_enter Try.func135, Try.ntmps135
                 go_wp2_with (first | (go_at_call 136; (with_reducible refine (impl_signedOf.calls a1 a2 t319 _ A8.out).mono ?_); rintro e w' ⟨rfl, ⟨nd, rfl⟩⟩; (try first | exact ⟨rfl, _, World.drewN_drewN _ _ _⟩ | exact ⟨rfl, _, Eq.trans (World.drewN_drewN _ _ _) (congrArg (World.drewN _) (Nat.add_assoc _ _ _))⟩)) | (go_at_call 136; (with_reducible refine (impl_signedOf.calls a1 a3 t320 _ A9.out).mono ?_); rintro e w' ⟨rfl, ⟨nd, rfl⟩⟩; (try first | exact ⟨rfl, _, World.drewN_drewN _ _ _⟩ | exact ⟨rfl, _, Eq.trans (World.drewN_drewN _ _ _) (congrArg (World.drewN _) (Nat.add_assoc _ _ _))⟩)) | (go_at_call 163; (with_reducible refine (impl_wrapped.calls a1 ji43 t330 _ A44.out).mono ?_); rintro e w' ⟨rfl, ⟨nd, rfl⟩⟩; (try first | exact ⟨rfl, _, World.drewN_drewN _ _ _⟩ | exact ⟨rfl, _, Eq.trans (World.drewN_drewN _ _ _) (congrArg (World.drewN _) (Nat.add_assoc _ _ _))⟩)))
                 repeat (go_quiet (first | (go_at_call 136; (with_reducible refine (impl_signedOf.calls a1 a2 t319 _ A8.out).mono ?_); rintro e w' ⟨rfl, ⟨nd, rfl⟩⟩; (try first | exact ⟨rfl, _, World.drewN_drewN _ _ _⟩ | exact ⟨rfl, _, Eq.trans (World.drewN_drewN _ _ _) (congrArg (World.drewN _) (Nat.add_assoc _ _ _))⟩)) | (go_at_call 136; (with_reducible refine (impl_signedOf.calls a1 a3 t320 _ A9.out).mono ?_); rintro e w' ⟨rfl, ⟨nd, rfl⟩⟩; (try first | exact ⟨rfl, _, World.drewN_drewN _ _ _⟩ | exact ⟨rfl, _, Eq.trans (World.drewN_drewN _ _ _) (congrArg (World.drewN _) (Nat.add_assoc _ _ _))⟩)) | (go_at_call 163; (with_reducible refine (impl_wrapped.calls a1 ji43 t330 _ A44.out).mono ?_); rintro e w' ⟨rfl, ⟨nd, rfl⟩⟩; (try first | exact ⟨rfl, _, World.drewN_drewN _ _ _⟩ | exact ⟨rfl, _, Eq.trans (World.drewN_drewN _ _ _) (congrArg (World.drewN _) (Nat.add_assoc _ _ _))⟩))); try go_wp2_with (first | (go_at_call 136; (with_reducible refine (impl_signedOf.calls a1 a2 t319 _ A8.out).mono ?_); rintro e w' ⟨rfl, ⟨nd, rfl⟩⟩; (try first | exact ⟨rfl, _, World.drewN_drewN _ _ _⟩ | exact ⟨rfl, _, Eq.trans (World.drewN_drewN _ _ _) (congrArg (World.drewN _) (Nat.add_assoc _ _ _))⟩)) | (go_at_call 136; (with_reducible refine (impl_signedOf.calls a1 a3 t320 _ A9.out).mono ?_); rintro e w' ⟨rfl, ⟨nd, rfl⟩⟩; (try first | exact ⟨rfl, _, World.drewN_drewN _ _ _⟩ | exact ⟨rfl, _, Eq.trans (World.drewN_drewN _ _ _) (congrArg (World.drewN _) (Nat.add_assoc _ _ _))⟩)) | (go_at_call 163; (with_reducible refine (impl_wrapped.calls a1 ji43 t330 _ A44.out).mono ?_); rintro e w' ⟨rfl, ⟨nd, rfl⟩⟩; (try first | exact ⟨rfl, _, World.drewN_drewN _ _ _⟩ | exact ⟨rfl, _, Eq.trans (World.drewN_drewN _ _ _) (congrArg (World.drewN _) (Nat.add_assoc _ _ _))⟩))))
                 go_ret
                 exact ⟨by first | rfl | (simp [errW_none, errW_some] <;> rfl) | (simp only [← hji6, ← hji41, ← hji43]; first | rfl | (simp [errW_none, errW_some] <;> rfl)) | (simp [*, errW_none, errW_some] <;> rfl), by repeat (first | (with_reducible first | exact HB.out | apply below_alloc | apply pw_below_drewN | apply below_drew1) | exact HB.out)⟩
                ·
                 rw [if_neg c40] at H
                 have c40b0 : (a0 == 15) = false := beq_eq_false_iff_ne.mpr c40
                 have c40b1 : (a0 != 15) = true := bne_iff_ne.mpr c40
                 by_cases c45 : a0 = 16
                 ·
                  rw [if_pos c45] at H
                  have c45b0 : (a0 == 16) = true := beq_iff_eq.mpr c45
                  have c45b1 : (a0 != 16) = false := bne_eq_false_iff_eq.mpr c45
                  clear c45
                  obtain ⟨ji46, hji46⟩ : ∃ j_ : Int, (Int.tmod a3 a1) = j_ := ⟨_, rfl⟩
                  replace H : (if 0 ≤ (ji46) then (some (shr .i64 a2 (ji46))) else (none)) = some r := by first | (rw [hji46] at H; exact H) | (simp only [hji46] at H ⊢; exact H)
                  (try rw [hji46] at A8)
                  (try rw [hji46] at A9)
                  replace H := ifp H; obtain ⟨c47, H⟩ := H
                  have c47b0 := eq_true c47
                  have c47b1 : decide (0 ≤ (ji46)) = true := decide_eq_true c47
                  clear c47
                  obtain ⟨ji48, hji48⟩ : ∃ j_ : Int, (shr .i64 a2 (ji46)) = j_ := ⟨_, rfl⟩
                  replace H : (some ji48) = some r := by first | (rw [hji48] at H; exact H) | (simp only [hji48] at H ⊢; exact H)
                  (try rw [hji48] at A8)
                  (try rw [hji48] at A9)
                  have hji48_ : (a2 / 2 ^ min (ji46).toNat 64) = ji48 := hji48
                  have hji48z : (ji46) ≤ 64 → (a2 / 2 ^ (ji46).toNat) = ji48 := shr_small hji48
                  obtain rfl := Option.some.inj H
                  go_enter Try.func135, Try.ntmps135
                  go_wp2_with (first | (go_at_call 136; (with_reducible refine (impl_signedOf.calls a1 a2 t319 _ A8.out).mono ?_); rintro e w' ⟨rfl, ⟨nd, rfl⟩⟩; (try first | exact ⟨rfl, _, World.drewN_drewN _ _ _⟩ | exact ⟨rfl, _, Eq.trans (World.drewN_drewN _ _ _) (congrArg (World.drewN _) (Nat.add_assoc _ _ _))⟩)) | (go_at_call 136; (with_reducible refine (impl_signedOf.calls a1 a3 t320 _ A9.out).mono ?_); rintro e w' ⟨rfl, ⟨nd, rfl⟩⟩; (try first | exact ⟨rfl, _, World.drewN_drewN _ _ _⟩ | exact ⟨rfl, _, Eq.trans (World.drewN_drewN _ _ _) (congrArg (World.drewN _) (Nat.add_assoc _ _ _))⟩)))
                  repeat (go_quiet (first | (go_at_call 136; (with_reducible refine (impl_signedOf.calls a1 a2 t319 _ A8.out).mono ?_); rintro e w' ⟨rfl, ⟨nd, rfl⟩⟩; (try first | exact ⟨rfl, _, World.drewN_drewN _ _ _⟩ | exact ⟨rfl, _, Eq.trans (World.drewN_drewN _ _ _) (congrArg (World.drewN _) (Nat.add_assoc _ _ _))⟩)) | (go_at_call 136; (with_reducible refine (impl_signedOf.calls a1 a3 t320 _ A9.out).mono ?_); rintro e w' ⟨rfl, ⟨nd, rfl⟩⟩; (try first | exact ⟨rfl, _, World.drewN_drewN _ _ _⟩ | exact ⟨rfl, _, Eq.trans (World.drewN_drewN _ _ _) (congrArg (World.drewN _) (Nat.add_assoc _ _ _))⟩))); try go_wp2_with (first | (go_at_call 136; (with_reducible refine (impl_signedOf.calls a1 a2 t319 _ A8.out).mono ?_); rintro e w' ⟨rfl, ⟨nd, rfl⟩⟩; (try first | exact ⟨rfl, _, World.drewN_drewN _ _ _⟩ | exact ⟨rfl, _, Eq.trans (World.drewN_drewN _ _ _) (congrArg (World.drewN _) (Nat.add_assoc _ _ _))⟩)) | (go_at_call 136; (with_reducible refine (impl_signedOf.calls a1 a3 t320 _ A9.out).mono ?_); rintro e w' ⟨rfl, ⟨nd, rfl⟩⟩; (try first | exact ⟨rfl, _, World.drewN_drewN _ _ _⟩ | exact ⟨rfl, _, Eq.trans (World.drewN_drewN _ _ _) (congrArg (World.drewN _) (Nat.add_assoc _ _ _))⟩))))
                  go_ret
                  exact ⟨by first | rfl | (simp [errW_none, errW_some] <;> rfl) | (simp only [← hji6, ← hji46, ← hji48]; first | rfl | (simp [errW_none, errW_some] <;> rfl)) | (simp [*, errW_none, errW_some] <;> rfl), by repeat (first | (with_reducible first | exact HB.out | apply below_alloc | apply pw_below_drewN | apply below_drew1) | exact HB.out)⟩
                 ·
                  rw [if_neg c45] at H
                  have c45b0 : (a0 == 16) = false := beq_eq_false_iff_ne.mpr c45
                  have c45b1 : (a0 != 16) = true := bne_iff_ne.mpr c45
                  obtain ⟨ji49, hji49⟩ : ∃ j_ : Int, (Int.tmod a3 a1) = j_ := ⟨_, rfl⟩
                  replace H : (if 0 ≤ (ji49) then ((impl_wrapped.f a1 (shr .i64 t319 (ji49))).bind fun t331 => (some t331)) else (none)) = some r := by first | (rw [hji49] at H; exact H) | (simp only [hji49] at H ⊢; exact H)
                  (try rw [hji49] at A8)
                  (try rw [hji49] at A9)
                  replace H := ifp H; obtain ⟨c50, H⟩ := H
                  have c50b0 := eq_true c50
                  have c50b1 : decide (0 ≤ (ji49)) = true := decide_eq_true c50
                  clear c50
                  obtain ⟨ji51, hji51⟩ : ∃ j_ : Int, (shr .i64 t319 (ji49)) = j_ := ⟨_, rfl⟩
                  replace H : ((impl_wrapped.f a1 (ji51)).bind fun t331 => (some t331)) = some r := by first | (rw [hji51] at H; exact H) | (simp only [hji51] at H ⊢; exact H)
                  (try rw [hji51] at A8)
                  (try rw [hji51] at A9)
                  have hji51_ : (t319 / 2 ^ min (ji49).toNat 64) = ji51 := hji51
                  have hji51z : (ji49) ≤ 64 → (t319 / 2 ^ (ji49).toNat) = ji51 := shr_small hji51
                  replace H := Option.bind_eq_some_iff.mp H
                  obtain ⟨t331, A520, H⟩ := H
                  replace H : (some t331) = some r := H
                  have A52 := am A520
                  clear A520
                  obtain rfl := Option.some.inj H
                  go_enter Try.func135, Try.ntmps135
                  go_wp2_with (first | (go_at_call 136; (with_reducible refine (impl_signedOf.calls a1 a2 t319 _ A8.out).mono ?_); rintro e w' ⟨rfl, ⟨nd, rfl⟩⟩; (try first | exact ⟨rfl, _, World.drewN_drewN _ _ _⟩ | exact ⟨rfl, _, Eq.trans (World.drewN_drewN _ _ _) (congrArg (World.drewN _) (Nat.add_assoc _ _ _))⟩)) | (go_at_call 136; (with_reducible refine (impl_signedOf.calls a1 a3 t320 _ A9.out).mono ?_); rintro e w' ⟨rfl, ⟨nd, rfl⟩⟩; (try first | exact ⟨rfl, _, World.drewN_drewN _ _ _⟩ | exact ⟨rfl, _, Eq.trans (World.drewN_drewN _ _ _) (congrArg (World.drewN _) (Nat.add_assoc _ _ _))⟩)) | (go_at_call 163; (with_reducible refine (impl_wrapped.calls a1 ji51 t331 _ A52.out).mono ?_); rintro e w' ⟨rfl, ⟨nd, rfl⟩⟩; (try first | exact ⟨rfl, _, World.drewN_drewN _ _ _⟩ | exact ⟨rfl, _, Eq.trans (World.drewN_drewN _ _ _) (congrArg (World.drewN _) (Nat.add_assoc _ _ _))⟩)))
                  repeat (go_quiet (first | (go_at_call 136; (with_reducible refine (impl_signedOf.calls a1 a2 t319 _ A8.out).mono ?_); rintro e w' ⟨rfl, ⟨nd, rfl⟩⟩; (try first | exact ⟨rfl, _, World.drewN_drewN _ _ _⟩ | exact ⟨rfl, _, Eq.trans (World.drewN_drewN _ _ _) (congrArg (World.drewN _) (Nat.add_assoc _ _ _))⟩)) | (go_at_call 136; (with_reducible refine (impl_signedOf.calls a1 a3 t320 _ A9.out).mono ?_); rintro e w' ⟨rfl, ⟨nd, rfl⟩⟩; (try first | exact ⟨rfl, _, World.drewN_drewN _ _ _⟩ | exact ⟨rfl, _, Eq.trans (World.drewN_drewN _ _ _) (congrArg (World.drewN _) (Nat.add_assoc _ _ _))⟩)) | (go_at_call 163; (with_reducible refine (impl_wrapped.calls a1 ji51 t331 _ A52.out).mono ?_); rintro e w' ⟨rfl, ⟨nd, rfl⟩⟩; (try first | exact ⟨rfl, _, World.drewN_drewN _ _ _⟩ | exact ⟨rfl, _, Eq.trans (World.drewN_drewN _ _ _) (congrArg (World.drewN _) (Nat.add_assoc _ _ _))⟩))); try go_wp2_with (first | (go_at_call 136; (with_reducible refine (impl_signedOf.calls a1 a2 t319 _ A8.out).mono ?_); rintro e w' ⟨rfl, ⟨nd, rfl⟩⟩; (try first | exact ⟨rfl, _, World.drewN_drewN _ _ _⟩ | exact ⟨rfl, _, Eq.trans (World.drewN_drewN _ _ _) (congrArg (World.drewN _) (Nat.add_assoc _ _ _))⟩)) | (go_at_call 136; (with_reducible refine (impl_signedOf.calls a1 a3 t320 _ A9.out).mono ?_); rintro e w' ⟨rfl, ⟨nd, rfl⟩⟩; (try first | exact ⟨rfl, _, World.drewN_drewN _ _ _⟩ | exact ⟨rfl, _, Eq.trans (World.drewN_drewN _ _ _) (congrArg (World.drewN _) (Nat.add_assoc _ _ _))⟩)) | (go_at_call 163; (with_reducible refine (impl_wrapped.calls a1 ji51 t331 _ A52.out).mono ?_); rintro e w' ⟨rfl, ⟨nd, rfl⟩⟩; (try first | exact ⟨rfl, _, World.drewN_drewN _ _ _⟩ | exact ⟨rfl, _, Eq.trans (World.drewN_drewN _ _ _) (congrArg (World.drewN _) (Nat.add_assoc _ _ _))⟩))))
                  go_ret
                  exact ⟨by first | rfl | (simp [errW_none, errW_some] <;> rfl) | (simp only [← hji6, ← hji49, ← hji51]; first | rfl | (simp [errW_none, errW_some] <;> rfl)) | (simp [*, errW_none, errW_some] <;> rfl), by repeat (first | (with_reducible first | exact HB.out | apply below_alloc | apply pw_below_drewN | apply below_drew1) | exact HB.out)⟩
end Go.Proofs.Ytfpcfaapoeeipaa.P
namespace Go.Proofs.Ytfpcfaapoeeipaa.P
open Go.RowKit Go.Proofs.YtfpcfaapoeeipaaW.PrintWords Go.Proofs.YtfpcfaapoeeipaaW.PrintLast Go.Proofs.YtfpcfaapoeeipaaW.PrintMore
attribute [local go_sem] max2_int min2_int max_two min_two
set_option linter.unusedVariables false
set_option linter.unusedSimpArgs false
def impl_set.f (a0 : Int) (a1_0 : Int) (a1_1 : Int) (a1_2 : Int) (a1_3 : Int) (a1_4 : Int) (l2 : List Int) : Option (List Int) := if a1_0 = 1 then (if 0 ≤ a1_1 then (if a1_1 < (l2.length : Int) then (some (l2.set (a1_1 : Int).toNat a1_4)) else (none)) else (none)) else (if 0 ≤ a1_3 then (if a1_3 < (l2.length : Int) then (if 0 ≤ a1_4 then (if a1_4 < (l2.length : Int) then ((impl_result.f a1_2 a0 (rd l2 a1_3) (rd l2 a1_4)).bind fun t336 => (if 0 ≤ a1_1 then (if a1_1 < (l2.length : Int) then (some (l2.set (a1_1 : Int).toNat t336)) else (none)) else (none))) else (none)) else (none)) else (none)) else (none))
def impl_set.T3 : Bool × List (List Nat × List Nat) := (true, [([], []), ([], []), ([1], [1]), ([], []), ([3], [3]), ([], []), ([], []), ([], []), ([7], [7]), ([6, 8], [6, 8]), ([9], [9]), ([], []), ([], []), ([12], [12]), ([11, 13], [11, 13]), ([14], [14]), ([4, 5, 10, 15], [4, 5, 10, 15]), ([0, 2, 0, 1, 2, 3, 4, 5, 6, 7, 8, 9, 10, 11, 12, 13, 14, 15, 16], [0, 2]), ([17, 16, 16, 0, 1, 2, 3, 4, 5, 6, 7, 8, 9, 10, 11, 12, 13, 14, 15, 16], [16, 17])])
def impl_set.B3 : List Nat := [0, 0, 2, 0, 8, 0, 0, 0, 128, 448, 960, 0, 0, 4096, 14336, 30720, 65528, 131071, 262143]
theorem impl_set.tab3 : rtab .any (opsOf Try.f105 3) = impl_set.T3 := by kernel_rfl
theorem impl_set.bits3 : waitsOk impl_set.T3.2 impl_set.B3 = true := by kernel_rfl
set_option maxHeartbeats 8000000 in
set_option maxRecDepth 100000 in
theorem impl_set.calls (a0 : Int) (a1_0 : Int) (a1_1 : Int) (a1_2 : Int) (a1_3 : Int) (a1_4 : Int) (P2_ : Nat → Prop) (u9000_ : Value) (l2 : List Int) (r : List Int) (w0 w : World) (hB : Below w0.heap.size w0 w) (ho2 : Kd.R (Kd.int .i64) 2 w w0.heap.size P2_ u9000_ l2) (h : impl_set.f a0 a1_0 a1_1 a1_2 a1_3 a1_4 l2 = some r) :
  Calls Try.prog 105 #[.int .i64 a0, .agg #[.int .i64 a1_0, .int .i64 a1_1, .int .i64 a1_2, .int .i64 a1_3, .int .i64 a1_4], u9000_] w fun e w' => e = .returned (.tuple #[]) ∧ Kd.R (Kd.int .i64) 2 w' w0.heap.size (fun k_ => (P2_ k_ ∨ w.heap.size ≤ k_)) u9000_ r ∧ Below w0.heap.size w0 w' ∧ Kept w w' (fun k_ => P2_ k_) := by
 have hu75 := Try.underlying75
 have HO2 := am (show Kd.R (Kd.int .i64) 2 w w0.heap.size (fun k_ => (P2_ k_ ∨ w.heap.size ≤ k_)) u9000_ l2 from Kd.R_mono ho2 (fun k_ hk => (.inl hk)))
 have HK := am (Kept.refl w (fun k_ => P2_ k_))
 have HW0 := am hB.size
 have HB := am hB
 clear hB
 have H : (if a1_0 = 1 then (if 0 ≤ a1_1 then (if a1_1 < (l2.length : Int) then (some (l2.set (a1_1 : Int).toNat a1_4)) else (none)) else (none)) else (if 0 ≤ a1_3 then (if a1_3 < (l2.length : Int) then (if 0 ≤ a1_4 then (if a1_4 < (l2.length : Int) then ((impl_result.f a1_2 a0 (rd l2 a1_3) (rd l2 a1_4)).bind fun t336 => (if 0 ≤ a1_1 then (if a1_1 < (l2.length : Int) then (some (l2.set (a1_1 : Int).toNat t336)) else (none)) else (none))) else (none)) else (none)) else (none)) else (none))) = some r := h
 clear h
 by_cases c4 : a1_0 = 1
 ·
  rw [if_pos c4] at H
  have c4b0 : (a1_0 == 1) = true := beq_iff_eq.mpr c4
  have c4b1 : (a1_0 != 1) = false := bne_eq_false_iff_eq.mpr c4
  clear c4
  replace H := ifp H; obtain ⟨c5, H⟩ := H
  have c5b0 : decide (0 ≤ a1_1) = true := decide_eq_true c5
  clear c5
  replace H := ifp H; obtain ⟨c6, H⟩ := H
  have c6b0 : decide (a1_1 < (l2.length : Int)) = true := decide_eq_true c6
  clear c6
  obtain ⟨y333, hy333⟩ : ∃ y_ : List Int, y_ = (l2.set (a1_1 : Int).toNat a1_4) := ⟨_, rfl⟩
  replace H : (some y333) = some r := by first | (rw [hy333]; with_reducible exact H) | (have H2_ := bsm H; rw [hy333]; with_reducible exact H2_) | (have H2_ := bsm H; exact H2_) | (rw [hy333]; exact H) | exact H
  have Ny333 := am hy333; clear hy333
  obtain rfl := Option.some.inj H
  go_enter Try.func105, Try.ntmps105
  go_wp2_with (first | ((with_reducible refine gate_dst (N := 4) rfl ?_); refine box_event ?hg (N := 4) ?hd (cs := #[.int .i64 a1_0, .int .i64 a1_1, .int .i64 a1_2, .int .i64 a1_3, .int .i64 a1_4]) (t := 75) ?hr ?_; (case hd => rfl); (case hg => rfl); (case hr => first | (go_simp; done) | (go_simp; rfl)); intro gb332 hg w8 hbox hb; have n0_ := am (Kd.R_below (rst HO2.out) hb); have n1_ := am (Kept.below (S := (fun k_ => P2_ k_)) (by repeat (first | (with_reducible first | exact HK.out | apply Kept.alloc | apply Kept.drewN | apply Kept.drew) | exact HK.out)) hb); have n2_ := am (below_step (bst HB) hb); have n3_ := am (hbox); have n4_ := am ((by rw [hg]; exact (by first | exact HK.out.1 | exact (show Kept w _ (fun k_ => P2_ k_) from by repeat (first | (with_reducible first | exact HK.out | apply Kept.alloc | apply Kept.drewN | apply Kept.drew) | exact HK.out)).1) : w.heap.size ≤ gb332)); have n5_ := am ((by rw [hg]; exact (below_size (bst HB)) : w0.heap.size ≤ gb332)); clear HO2; clear HK; clear HB; have HO2 := n0_; have HK := n1_; have HB := n2_; have BK332 := n3_; have GW332 := n4_; have GE332 := n5_; clear n0_ n1_ n2_ n3_ n4_ n5_; clear hb hbox hg; obtain ⟨hcz9_0, hcz9_1, hcz9_2, hcz9_3, hcz9_4, hfz9_0, hfz9_1, hfz9_2, hfz9_3, hfz9_4⟩ := bx5 BK332.out; have p7 : 0 ≤ (a1_1 : Int) := od (by assumption); have q7 : (a1_1 : Int) < ((l2.length : Int) : Int) := od (by assumption); obtain ⟨go7, co7, eo7, gb7, gl7, cl7, HG7⟩ := Kd.R_form HO2.out (by omega); (first | cases eo7 | (injection eo7 with ea_ en_ ec_; (first | subst ea_ | (injection ea_ with ea_; subst ea_)); subst ec_; clear en_)); have GB7 := am gb7; have GG7 := am HG7; clear gb7 gl7 HG7; have HMgo7 := am (show (P2_ go7 ∨ w.heap.size ≤ go7) from (HO2.out.1 _ rfl)); obtain ⟨hx7_0, hf7_0⟩ := Kd.R_celln 0 HO2.out (a1_1 : Int) p7 q7; replace p7 := eq_true p7; replace q7 := eq_true q7; obtain ⟨hy10_, hz10_⟩ := Kd.R_celln 0 HO2.out (a1_1 : Int) (od (by assumption)) (od (by assumption)); have HP10 := Kd.R_putg HO2.out (a1_1 : Int) a1_4) | ((with_reducible refine gate_store (t := 2) (p := 14) rfl ?_); refine store_event (t := 2) (p := 14) (v := ?vo_w11) (w1 := (w8.setCell ⟨go7, (a1_1 : Int).toNat, none⟩ (.int .i64 a1_4))) ?hg ?ho ?hn ?hr ?_; (case ho => rfl); (case hg => rfl); (case hn => rfl); (case hr => first | (go_simp; done) | (go_simp; rfl)); intro w11 hw; have hg : w8.grownBy w11 (some go7) := (by rw [hw]; exact HP10.2); have hp_ : Kd.R (Kd.int .i64) 2 w11 w0.heap.size (fun k_ => (P2_ k_ ∨ w.heap.size ≤ k_)) (.slice (some ⟨go7, 0, none⟩) l2.length co7) y333 := (by rw [hw, Ny333.out]; exact HP10.1); clear HP10; have n0_ := am (hp_); have n1_ := am (blk_grown (g := gb332) (o := .cells #[.int .i64 a1_0, .int .i64 a1_1, .int .i64 a1_2, .int .i64 a1_3, .int .i64 a1_4] 75 (0, 0)) (by (with_reducible repeat (first | refine blk_drewN ?_ _ | refine blk_drew ?_ | refine blk_alloc ?_ _)); exact BK332.out) hg (Kd.R_ne HO2.out BK332.out (by decide))); have n2_ := am ((by rw [hw]; exact below_set (HB.out) GB7.out : Below w0.heap.size w0 w11)); have n3_ := am (Kept.of_grown (S := (fun k_ => P2_ k_)) hg (by repeat (first | (with_reducible first | exact HK.out | apply Kept.alloc | apply Kept.drewN | apply Kept.drew | refine Kept.setCell ?_ (.inr GW332.out) _) | exact HK.out)) (fun k_ e_ => (HO2.out.1 k_ e_))); clear HO2; clear BK332; clear HB; clear HK; have HO2 := n0_; have BK332 := n1_; have HB := n2_; have HK := n3_; clear n0_ n1_ n2_ n3_; clear hg hw hp_))
  first | go_end0 | ((try simp only [Exit.inBlock, Exit.then]); refine bodyPost_ret (results_none rfl _ _ _) rfl ?_)
  exact ⟨by first | rfl | (simp [errW_none, errW_some] <;> rfl) | (simp [*, errW_none, errW_some] <;> rfl), by (with_reducible repeat (first | apply Kd.R_alloc | apply Kd.R_drewN | apply Kd.R_drew)); exact HO2.out, by repeat (first | (with_reducible first | exact HB.out | apply below_alloc | apply pw_below_drewN | apply below_drew1 | refine below_set ?_ GE332.out) | exact HB.out), by repeat (first | (with_reducible first | exact HK.out | apply Kept.alloc | apply Kept.drewN | apply Kept.drew | refine Kept.setCell ?_ (.inr GW332.out) _) | exact HK.out)⟩
 ·
  rw [if_neg c4] at H
  have c4b0 : (a1_0 == 1) = false := beq_eq_false_iff_ne.mpr c4
  have c4b1 : (a1_0 != 1) = true := bne_iff_ne.mpr c4
  replace H := ifp H; obtain ⟨c12, H⟩ := H
  have c12b0 : decide (0 ≤ a1_3) = true := decide_eq_true c12
  clear c12
  replace H := ifp H; obtain ⟨c13, H⟩ := H
  have c13b0 : decide (a1_3 < (l2.length : Int)) = true := decide_eq_true c13
  clear c13
  replace H := ifp H; obtain ⟨c14, H⟩ := H
  have c14b0 : decide (0 ≤ a1_4) = true := decide_eq_true c14
  clear c14
  replace H := ifp H; obtain ⟨c15, H⟩ := H
  have c15b0 : decide (a1_4 < (l2.length : Int)) = true := decide_eq_true c15
  clear c15
  replace H := Option.bind_eq_some_iff.mp H
  obtain ⟨t336, A160, H⟩ := H
  replace H : (if 0 ≤ a1_1 then (if a1_1 < (l2.length : Int) then (some (l2.set (a1_1 : Int).toNat t336)) else (none)) else (none)) = some r := H
  have A16 := am A160
  clear A160
  replace H := ifp H; obtain ⟨c17, H⟩ := H
  have c17b0 : decide (0 ≤ a1_1) = true := decide_eq_true c17
  clear c17
  replace H := ifp H; obtain ⟨c18, H⟩ := H
  have c18b0 : decide (a1_1 < (l2.length : Int)) = true := decide_eq_true c18
  clear c18
  obtain ⟨y337, hy337⟩ : ∃ y_ : List Int, y_ = (l2.set (a1_1 : Int).toNat t336) := ⟨_, rfl⟩
  replace H : (some y337) = some r := by first | (rw [hy337]; with_reducible exact H) | (have H2_ := bsm H; rw [hy337]; with_reducible exact H2_) | (have H2_ := bsm H; exact H2_) | (rw [hy337]; exact H) | exact H
  have Ny337 := am hy337; clear hy337
  obtain rfl := Option.some.inj H
  go_enter Try.func105, Try.ntmps105
  try go_wp2_with (first | ((with_reducible refine gate_dst (N := 4) rfl ?_); refine box_event ?hg (N := 4) ?hd (cs := #[.int .i64 a1_0, .int .i64 a1_1, .int .i64 a1_2, .int .i64 a1_3, .int .i64 a1_4]) (t := 75) ?hr ?_; (case hd => rfl); (case hg => rfl); (case hr => first | (go_simp; done) | (go_simp; rfl)); intro gb332 hg w20 hbox hb; have n0_ := am (Kd.R_below (rst HO2.out) hb); have n1_ := am (Kept.below (S := (fun k_ => P2_ k_)) (by repeat (first | (with_reducible first | exact HK.out | apply Kept.alloc | apply Kept.drewN | apply Kept.drew) | exact HK.out)) hb); have n2_ := am (below_step (bst HB) hb); have n3_ := am (hbox); have n4_ := am ((by rw [hg]; exact (by first | exact HK.out.1 | exact (show Kept w _ (fun k_ => P2_ k_) from by repeat (first | (with_reducible first | exact HK.out | apply Kept.alloc | apply Kept.drewN | apply Kept.drew) | exact HK.out)).1) : w.heap.size ≤ gb332)); have n5_ := am ((by rw [hg]; exact (below_size (bst HB)) : w0.heap.size ≤ gb332)); clear HO2; clear HK; clear HB; have HO2 := n0_; have HK := n1_; have HB := n2_; have BK332 := n3_; have GW332 := n4_; have GE332 := n5_; clear n0_ n1_ n2_ n3_ n4_ n5_; clear hb hbox hg; obtain ⟨hcz21_0, hcz21_1, hcz21_2, hcz21_3, hcz21_4, hfz21_0, hfz21_1, hfz21_2, hfz21_3, hfz21_4⟩ := bx5 BK332.out))
  have n0_ := am (Kd.R_drew HO2.out)
  have n1_ := am (blk_drew BK332.out)
  have n2_ := am (Kept.drew HK.out)
  have n3_ := am (below_drew1 HB.out)
  clear HO2; clear BK332; clear HK; clear HB
  have HO2 := n0_
  have BK332 := n1_
  have HK := n2_
  have HB := n3_
  clear n0_ n1_ n2_ n3_
  obtain ⟨Ao23, co23, eo23⟩ := Kd.R_slice HO2.out
  (first | subst eo23 | (injection eo23 with f1_ f2_ f3_; have f4_ := f1_.symm; have f5_ := f3_.symm; clear f1_ f2_ f3_; subst f4_; subst f5_))
  have p334 : 0 ≤ (a1_3 : Int) := od (by assumption)
  have q334 : a1_3 < (l2.length : Int) := od (by assumption)
  obtain ⟨ad334, e334, hx334_0⟩ := Kd.at_int (Kd.R_reads' HO2.out).2.2 a1_3 p334 q334
  cases e334
  replace p334 := eq_true p334; replace q334 := eq_true q334
  have p335 : 0 ≤ (a1_4 : Int) := od (by assumption)
  have q335 : a1_4 < (l2.length : Int) := od (by assumption)
  obtain ⟨ad335, e335, hx335_0⟩ := Kd.at_int (Kd.R_reads' HO2.out).2.2 a1_4 p335 q335
  obtain rfl : ad334 = ad335 := (by injection e335)
  replace p335 := eq_true p335; replace q335 := eq_true q335
  refine start_ (n := 19) (S := fun w' => w'.cell? ⟨gb332, 0, none⟩ = some (.int .i64 a1_0) ∧ w'.cell? ⟨gb332, 1, none⟩ = some (.int .i64 a1_1) ∧ w'.cell? ⟨gb332, 2, none⟩ = some (.int .i64 a1_2) ∧ w'.cell? ⟨gb332, 3, none⟩ = some (.int .i64 a1_3) ∧ w'.cell? ⟨gb332, 4, none⟩ = some (.int .i64 a1_4) ∧ w'.cell? (ad334.add (a1_3).toNat) = some (.int .i64 (rd l2 a1_3)) ∧ w'.cell? (ad334.add (a1_4).toNat) = some (.int .i64 (rd l2 a1_4))) (ds := [18]) #[false, false, false, false, false, false, false, false, false, false, false, false, false, false, false, false, false, false, false] (by kernel_rfl) rfl rfl ⟨(blk_cell BK332.out 0).trans rfl, (blk_cell BK332.out 1).trans rfl, (blk_cell BK332.out 2).trans rfl, (blk_cell BK332.out 3).trans rfl, (blk_cell BK332.out 4).trans rfl, hx334_0, hx335_0⟩ (fun hHeld => ?_); refine with_tabW impl_set.tab3 impl_set.bits3 (fun HT_ HW_ => ?_)
  generalize w20.drew = w22 at HO2 BK332 HK HB hx334_0 hx335_0 hHeld ⊢
  refine pure_ (i := 0) (N := some 15) (v := ?_) (a' := ?_) #[true, false, false, false, false, false, false, false, false, false, false, false, false, false, false, false, false, false, false] rfl rfl (any_of HT_.out (by kernel_rfl)) (fun _ _ _ h => h) (Or.inl ⟨by rfl, ?_⟩) ?_ ?_
  rotate_left
  ·
   intro w'
   go_simp
   with_reducible rfl
  rotate_left
  ·
   simp only [Act.put, List.setIfInBounds_toArray, List.set_cons_zero, List.set_cons_succ, i64_w, i32_w]
   rfl
  refine pure_ (i := 1) (N := some 16) (v := ?_) (a' := ?_) #[true, true, false, false, false, false, false, false, false, false, false, false, false, false, false, false, false, false, false] rfl rfl (any_of HT_.out (by kernel_rfl)) (fun _ _ _ h => h) (Or.inl ⟨by rfl, ?_⟩) ?_ ?_
  rotate_left
  ·
   intro w'
   go_simp
   with_reducible rfl
  rotate_left
  ·
   simp only [Act.put, List.setIfInBounds_toArray, List.set_cons_zero, List.set_cons_succ, i64_w, i32_w]
   rfl
  refine pure_ (i := 3) (N := some 18) (v := ?_) (a' := ?_) #[true, true, false, true, false, false, false, false, false, false, false, false, false, false, false, false, false, false, false] rfl rfl (any_of HT_.out (by kernel_rfl)) (fun _ _ _ h => h) (Or.inl ⟨by rfl, ?_⟩) ?_ ?_
  rotate_left
  ·
   intro w'
   go_simp
   with_reducible rfl
  rotate_left
  ·
   simp only [Act.put, List.setIfInBounds_toArray, List.set_cons_zero, List.set_cons_succ, i64_w, i32_w]
   rfl
  refine pure_ (i := 5) (N := some 20) (v := ?_) (a' := ?_) #[true, true, false, true, false, true, false, false, false, false, false, false, false, false, false, false, false, false, false] rfl rfl (any_of HT_.out (by kernel_rfl)) (fun _ _ _ h => h) (Or.inl ⟨by rfl, ?_⟩) ?_ ?_
  rotate_left
  ·
   intro w'
   go_simp
   with_reducible rfl
  rotate_left
  ·
   simp only [Act.put, List.setIfInBounds_toArray, List.set_cons_zero, List.set_cons_succ, i64_w, i32_w]
   rfl
  refine pure_ (i := 6) (N := some 21) (v := ?_) (a' := ?_) #[true, true, false, true, false, true, true, false, false, false, false, false, false, false, false, false, false, false, false] rfl rfl (any_of HT_.out (by kernel_rfl)) (fun _ _ _ h => h) (Or.inl ⟨by rfl, ?_⟩) ?_ ?_
  rotate_left
  ·
   intro w'
   go_simp
   with_reducible rfl
  rotate_left
  ·
   simp only [Act.put, List.setIfInBounds_toArray, List.set_cons_zero, List.set_cons_succ, i64_w, i32_w]
   rfl
  refine pure_ (i := 7) (N := some 22) (v := ?_) (a' := ?_) #[true, true, false, true, false, true, true, true, false, false, false, false, false, false, false, false, false, false, false] rfl rfl (any_of HT_.out (by kernel_rfl)) (fun _ _ _ h => h) (Or.inl ⟨by rfl, ?_⟩) ?_ ?_
  rotate_left
  ·
   intro w'
   go_simp
   with_reducible rfl
  rotate_left
  ·
   simp only [Act.put, List.setIfInBounds_toArray, List.set_cons_zero, List.set_cons_succ, i64_w, i32_w]
   rfl
  refine pure_ (i := 11) (N := some 26) (v := ?_) (a' := ?_) #[true, true, false, true, false, true, true, true, false, false, false, true, false, false, false, false, false, false, false] rfl rfl (any_of HT_.out (by kernel_rfl)) (fun _ _ _ h => h) (Or.inl ⟨by rfl, ?_⟩) ?_ ?_
  rotate_left
  ·
   intro w'
   go_simp
   with_reducible rfl
  rotate_left
  ·
   simp only [Act.put, List.setIfInBounds_toArray, List.set_cons_zero, List.set_cons_succ, i64_w, i32_w]
   rfl
  refine pure_ (i := 12) (N := some 27) (v := ?_) (a' := ?_) #[true, true, false, true, false, true, true, true, false, false, false, true, true, false, false, false, false, false, false] rfl rfl (any_of HT_.out (by kernel_rfl)) (fun _ _ _ h => h) (Or.inl ⟨by rfl, ?_⟩) ?_ ?_
  rotate_left
  ·
   intro w'
   go_simp
   with_reducible rfl
  rotate_left
  ·
   simp only [Act.put, List.setIfInBounds_toArray, List.set_cons_zero, List.set_cons_succ, i64_w, i32_w]
   rfl
  refine take_ (i := 2) (N := some 17) (v := ?_) (a' := ?_) #[true, true, true, true, false, true, true, true, false, false, false, true, true, false, false, false, false, false, false] rfl rfl (take_ofW HT_.out HW_.out (by kernel_rfl)) (fun _ _ _ h => h) (Or.inl ⟨by rfl, ?_⟩) hHeld ?_ ?_
  rotate_left
  ·
   rintro w' ⟨s0, s1, s2, s3, s4, s5, s6⟩
   go_simp
   with_reducible rfl
  rotate_left
  ·
   simp only [Act.put, List.setIfInBounds_toArray, List.set_cons_zero, List.set_cons_succ, i64_w, i32_w]
   rfl
  refine take_ (i := 4) (N := some 19) (v := ?_) (a' := ?_) #[true, true, true, true, true, true, true, true, false, false, false, true, true, false, false, false, false, false, false] rfl rfl (take_ofW HT_.out HW_.out (by kernel_rfl)) (fun _ _ _ h => h) (Or.inl ⟨by rfl, ?_⟩) hHeld ?_ ?_
  rotate_left
  ·
   rintro w' ⟨s0, s1, s2, s3, s4, s5, s6⟩
   go_simp
   with_reducible rfl
  rotate_left
  ·
   simp only [Act.put, List.setIfInBounds_toArray, List.set_cons_zero, List.set_cons_succ, i64_w, i32_w]
   rfl
  refine take_ (i := 8) (N := some 23) (v := ?_) (a' := ?_) #[true, true, true, true, true, true, true, true, true, false, false, true, true, false, false, false, false, false, false] rfl rfl (take_ofW HT_.out HW_.out (by kernel_rfl)) (fun _ _ _ h => h) (Or.inl ⟨by rfl, ?_⟩) hHeld ?_ ?_
  rotate_left
  ·
   rintro w' ⟨s0, s1, s2, s3, s4, s5, s6⟩
   go_simp
   with_reducible rfl
  rotate_left
  ·
   simp only [Act.put, List.setIfInBounds_toArray, List.set_cons_zero, List.set_cons_succ, i64_w, i32_w]
   rfl
  refine pure_ (i := 9) (N := some 24) (v := ?_) (a' := ?_) #[true, true, true, true, true, true, true, true, true, true, false, true, true, false, false, false, false, false, false] rfl rfl (any_of HT_.out (by kernel_rfl)) (fun _ _ _ h => h) (Or.inl ⟨by rfl, ?_⟩) ?_ ?_
  rotate_left
  ·
   intro w'
   go_simp
   with_reducible rfl
  rotate_left
  ·
   simp only [Act.put, List.setIfInBounds_toArray, List.set_cons_zero, List.set_cons_succ, i64_w, i32_w]
   rfl
  refine take_ (i := 10) (N := some 25) (v := ?_) (a' := ?_) #[true, true, true, true, true, true, true, true, true, true, true, true, true, false, false, false, false, false, false] rfl rfl (take_ofW HT_.out HW_.out (by kernel_rfl)) (fun _ _ _ h => h) (Or.inl ⟨by rfl, ?_⟩) hHeld ?_ ?_
  rotate_left
  ·
   rintro w' ⟨s0, s1, s2, s3, s4, s5, s6⟩
   go_simp
   with_reducible rfl
  rotate_left
  ·
   simp only [Act.put, List.setIfInBounds_toArray, List.set_cons_zero, List.set_cons_succ, i64_w, i32_w]
   rfl
  refine take_ (i := 13) (N := some 28) (v := ?_) (a' := ?_) #[true, true, true, true, true, true, true, true, true, true, true, true, true, true, false, false, false, false, false] rfl rfl (take_ofW HT_.out HW_.out (by kernel_rfl)) (fun _ _ _ h => h) (Or.inl ⟨by rfl, ?_⟩) hHeld ?_ ?_
  rotate_left
  ·
   rintro w' ⟨s0, s1, s2, s3, s4, s5, s6⟩
   go_simp
   with_reducible rfl
  rotate_left
  ·
   simp only [Act.put, List.setIfInBounds_toArray, List.set_cons_zero, List.set_cons_succ, i64_w, i32_w]
   rfl
  refine pure_ (i := 14) (N := some 29) (v := ?_) (a' := ?_) #[true, true, true, true, true, true, true, true, true, true, true, true, true, true, true, false, false, false, false] rfl rfl (any_of HT_.out (by kernel_rfl)) (fun _ _ _ h => h) (Or.inl ⟨by rfl, ?_⟩) ?_ ?_
  rotate_left
  ·
   intro w'
   go_simp
   with_reducible rfl
  rotate_left
  ·
   simp only [Act.put, List.setIfInBounds_toArray, List.set_cons_zero, List.set_cons_succ, i64_w, i32_w]
   rfl
  refine take_ (i := 15) (N := some 30) (v := ?_) (a' := ?_) #[true, true, true, true, true, true, true, true, true, true, true, true, true, true, true, true, false, false, false] rfl rfl (take_ofW HT_.out HW_.out (by kernel_rfl)) (fun _ _ _ h => h) (Or.inl ⟨by rfl, ?_⟩) hHeld ?_ ?_
  rotate_left
  ·
   rintro w' ⟨s0, s1, s2, s3, s4, s5, s6⟩
   go_simp
   with_reducible rfl
  rotate_left
  ·
   simp only [Act.put, List.setIfInBounds_toArray, List.set_cons_zero, List.set_cons_succ, i64_w, i32_w]
   rfl
  refine one_ (i := 16) (N := some 31) #[true, true, true, true, true, true, true, true, true, true, true, true, true, true, true, true, true, false, false] rfl rfl (one_of HT_.out (by kernel_rfl)) (by decide) (fun K hK => ?_)
  refine goes_ Try.func135 (by kernel_rfl) rfl #[.int .i64 a1_2, .int .i64 a0, .int .i64 (rd l2 a1_3), .int .i64 (rd l2 a1_4)] (by rfl) rfl rfl (by (try simp only [List.map_toArray, List.map_cons, List.map_nil]); first | done | rfl | (simp only [List.length_drop, List.length_take]; rfl)) ?_
  with_reducible refine (impl_result.calls a1_2 a0 (rd l2 a1_3) (rd l2 a1_4) t336 _ A16.out).mono ?_
  rintro e w24 ⟨rfl, hb⟩
  have HS5_ := (hb.cell (World.block_lt_of_cell? _ _ (hHeld.2.2.2.2.2.1))).trans (hHeld.2.2.2.2.2.1)
  have HS6_ := (hb.cell (World.block_lt_of_cell? _ _ (hHeld.2.2.2.2.2.2))).trans (hHeld.2.2.2.2.2.2)
  refine ⟨_, rfl, ?_⟩
  have n0_ := am (Kd.R_below (rst HO2.out) hb)
  have n1_ := am (blk_below (g := gb332) (o := .cells #[.int .i64 a1_0, .int .i64 a1_1, .int .i64 a1_2, .int .i64 a1_3, .int .i64 a1_4] 75 (0, 0)) (by (with_reducible repeat (first | refine blk_drewN ?_ _ | refine blk_drew ?_ | refine blk_alloc ?_ _)); exact BK332.out) hb)
  have n2_ := am (Kept.below (S := (fun k_ => P2_ k_)) (by repeat (first | (with_reducible first | exact HK.out | apply Kept.alloc | apply Kept.drewN | apply Kept.drew | refine Kept.setCell ?_ (.inr GW332.out) _) | exact HK.out)) hb)
  have n3_ := am (below_step (by repeat (first | (with_reducible first | exact HB.out | apply below_alloc | apply pw_below_drewN | apply below_drew1 | refine below_set ?_ GE332.out) | exact HB.out)) hb)
  clear HO2; clear BK332; clear HK; clear HB
  have HO2 := n0_
  have BK332 := n1_
  have HK := n2_
  have HB := n3_
  clear n0_ n1_ n2_ n3_
  (try clear hb)
  (try clear hb2)
  (try clear hk)
  (try clear hi)
  have p19 : 0 ≤ (a1_1 : Int) := od (by assumption)
  have q19 : (a1_1 : Int) < ((l2.length : Int) : Int) := od (by assumption)
  obtain ⟨go19, co19, eo19, gb19, gl19, cl19, HG19⟩ := Kd.R_form HO2.out (by omega)
  (first | cases eo19 | (injection eo19 with ea_ en_ ec_; (first | subst ea_ | (injection ea_ with ea_; subst ea_)); subst ec_; clear en_))
  have GB19 := am gb19
  have GG19 := am HG19
  clear gb19 gl19 HG19
  have HMgo19 := am (show (P2_ go19 ∨ w.heap.size ≤ go19) from (HO2.out.1 _ rfl))
  (first | simp only [add_plain] at hx334_0 | skip)
  (first | simp only [add_plain] at hx335_0 | skip)
  obtain ⟨hx19_0, hf19_0⟩ := Kd.R_celln 0 HO2.out (a1_1 : Int) p19 q19
  replace p19 := eq_true p19; replace q19 := eq_true q19
  have HP25 := Kd.R_putn HO2.out (a1_1 : Int) t336
  rw [← Ny337.out] at HP25
  have HQ25 := am HP25
  clear HP25
  refine hK.out _ _ ⟨(blk_cell BK332.out 0).trans rfl, (blk_cell BK332.out 1).trans rfl, (blk_cell BK332.out 2).trans rfl, (blk_cell BK332.out 3).trans rfl, (blk_cell BK332.out 4).trans rfl, HS5_, HS6_⟩ (fun hHeld => ?_)
  clear hK K
  refine norm_ (a' := ?_) ?_ ?_
  rotate_left
  ·
   show Act.put _ (some 31) _ = _
   simp only [Act.put, List.setIfInBounds_toArray, List.set_cons_zero, List.set_cons_succ, i64_w, i32_w]
   rfl
  refine pure_ (i := 17) (N := some 32) (v := ?_) (a' := ?_) #[true, true, true, true, true, true, true, true, true, true, true, true, true, true, true, true, true, true, false] rfl rfl (any_of HT_.out (by kernel_rfl)) (fun _ _ _ h => h) (Or.inl ⟨by rfl, ?_⟩) ?_ ?_
  rotate_left
  ·
   intro w'
   go_simp
   with_reducible rfl
  rotate_left
  ·
   simp only [Act.put, List.setIfInBounds_toArray, List.set_cons_zero, List.set_cons_succ, i64_w, i32_w]
   rfl
  refine last_ (i := 18) (N := none) #[true, true, true, true, true, true, true, true, true, true, true, true, true, true, true, true, true, true, true] rfl rfl (one_of HT_.out (by kernel_rfl)) (by decide) (fun K hK => ?_)
  refine skip_ (w1 := ?_) (by rfl) rfl ?_ ?_
  rotate_left
  ·
   go_simp
   rfl
  refine hK.out _ _ ?_
  clear hK K
  refine done_ (done_of HT_.out (by kernel_rfl)) ?_
  try go_wp2
  first | go_end0 | ((try simp only [Exit.inBlock, Exit.then]); refine bodyPost_ret (results_none rfl _ _ _) rfl ?_)
  exact ⟨by first | rfl | (simp [errW_none, errW_some] <;> rfl) | (simp [*, errW_none, errW_some] <;> rfl), by (with_reducible repeat (first | apply Kd.R_alloc | apply Kd.R_drewN | apply Kd.R_drew)); exact HQ25.out, by repeat (first | (with_reducible first | exact HB.out | apply below_alloc | apply pw_below_drewN | apply below_drew1 | refine below_set ?_ GB19.out | refine below_set ?_ GE332.out) | exact HB.out), by repeat (first | (with_reducible first | exact HK.out | apply Kept.alloc | apply Kept.drewN | apply Kept.drew | refine Kept.setCell ?_ HMgo19.out _ | refine Kept.setCell ?_ (.inr GW332.out) _) | exact HK.out)⟩
end Go.Proofs.Ytfpcfaapoeeipaa.P
