/- Plain laws over the contracts' functions: what the law's function gives, for all arguments. -/
import Derived.Test.YtfpcfaapoeeipaaVbp6
set_option linter.unusedSimpArgs false
set_option linter.unusedVariables false
namespace Go.Proofs.Ytfpcfaapoeeipaa.Ops
open Go.RowKit Go.Proofs.YtfpcfaapoeeipaaW.PrintWords Go.Proofs.YtfpcfaapoeeipaaW.PrintLast Go.Proofs.YtfpcfaapoeeipaaW.PrintMore Go.Proofs.Ytfpcfaapoeeipaa.P
theorem and_mask (x : Int) (i : Nat) (hi : i ≤ 16) (m : Int) (hm : m = ((2 ^ i - 1 : Nat) : Int)) : Go.bits .and .i64 x m = x % ((2 ^ i : Nat) : Int) := by
  have hpos : 0 < 2 ^ i := Nat.two_pow_pos i
  have h16 : 2 ^ i ≤ 2 ^ 16 := Nat.pow_le_pow_right (by decide) hi
  have hd : (((2 ^ i : Nat) : Int)) ∣ ((2 ^ 64 : Nat) : Int) := Int.natCast_dvd_natCast.2 (Nat.pow_dvd_pow 2 (by omega))
  subst hm
  have e1 : ((((2 ^ i - 1 : Nat) : Int)) % ((2 ^ 64 : Nat) : Int)).toNat = 2 ^ i - 1 := by
    rw [Int.emod_eq_of_lt (by omega) (by have : (2 ^ 16 : Nat) < 2 ^ 64 := by decide
                                         omega)]
    simp
  have e2 : (((x % ((2 ^ 64 : Nat) : Int)).toNat % 2 ^ i : Nat) : Int) = x % ((2 ^ i : Nat) : Int) := by
    rw [Int.natCast_emod, Int.toNat_of_nonneg (Int.emod_nonneg _ (by decide)), Int.emod_emod_of_dvd _ hd]
  have e3 : Go.bits .and .i64 x (((2 ^ i - 1 : Nat) : Int)) = IntKind.i64.wrap (((BitVec.ofInt 64 x) &&& (BitVec.ofInt 64 ((2 ^ i - 1 : Nat) : Int))).toNat : Int) := rfl
  rw [e3, BitVec.toNat_and, BitVec.toNat_ofInt, BitVec.toNat_ofInt, e1, Nat.and_two_pow_sub_one_eq_mod, e2, IntKind.wrap_i64]
  have h0 := Int.emod_nonneg x (show (((2 ^ i : Nat) : Int)) ≠ 0 by omega)
  have h1 := Int.emod_lt_of_pos x (show 0 < (((2 ^ i : Nat) : Int)) by omega)
  have : (2 ^ 16 : Nat) = 65536 := by decide
  omega
def IsB (b : Int) : Prop := b = 4 ∨ b = 8 ∨ b = 16
def pw (b : Int) : Int := if b = 4 then 16 else if b = 8 then 256 else 65536
def Wd (b x : Int) : Prop := 0 ≤ x ∧ x < pw b
theorem pw_bounds {b : Int} (h : IsB b) : (pw b = 16 ∨ pw b = 256 ∨ pw b = 65536) ∧ 4 ≤ b ∧ b ≤ 16 := by
  rcases h with rfl | rfl | rfl <;> decide
structure Bf (b : Int) : Prop where
  s : shl .i64 1 b = pw b
  m : wrap64 (pw b - 1) = pw b - 1
  h : shl .i64 1 (wrap64 (b - 1)) = pw b / 2
  u : IntKind.u64.wrap b = b
  u1 : IntKind.u64.wrap (wrap64 (b - 1)) = wrap64 (b - 1)
  w1 : 0 ≤ wrap64 (b - 1)
theorem bf {b : Int} (h : IsB b) : Bf b := by
  rcases h with rfl | rfl | rfl <;> exact ⟨by decide +kernel, by decide +kernel, by decide +kernel, by decide +kernel, by decide +kernel, by decide +kernel⟩
theorem shr_top {b x : Int} (hb : IsB b) (hx : Wd b x) : shr .i64 x (wrap64 (b - 1)) = 1 ↔ pw b / 2 ≤ x := by
  obtain ⟨h0, h1⟩ := hx
  unfold shr
  rcases hb with rfl | rfl | rfl
  · rw [show min (wrap64 (4 - 1)).toNat IntKind.i64.bits = 3 by decide +kernel]; rw [show pw 4 = 16 by decide] at *; omega
  · rw [show min (wrap64 (8 - 1)).toNat IntKind.i64.bits = 7 by decide +kernel]; rw [show pw 8 = 256 by decide] at *; omega
  · rw [show min (wrap64 (16 - 1)).toNat IntKind.i64.bits = 15 by decide +kernel]; rw [show pw 16 = 65536 by decide] at *; omega
theorem w64 {x : Int} (h : -9223372036854775808 ≤ x ∧ x ≤ 9223372036854775807) : wrap64 x = x := by unfold wrap64; omega
def sg (b x : Int) : Int := if x < pw b / 2 then x else x - pw b
theorem sg_impl {b x : Int} (hb : IsB b) (hx : Wd b x) : impl_signedOf.f b x = some (sg b x) := by
  have F := bf hb
  have B := pw_bounds hb
  obtain ⟨h0, h1⟩ := hx
  unfold impl_signedOf.f sg
  rw [if_pos F.w1, F.h, F.s]
  split
  · rfl
  · rw [if_pos (by omega), w64 (by omega)]
theorem sg_spec {b x : Int} (hb : IsB b) (hx : Wd b x) : spec_l01Signed.f b x = some (sg b x) := by
  have F := bf hb
  have B := pw_bounds hb
  have T := shr_top hb hx
  obtain ⟨h0, h1⟩ := hx
  unfold spec_l01Signed.f sg
  rw [F.u1, F.u, if_pos F.w1, F.s]
  by_cases h : pw b / 2 ≤ x
  · rw [if_pos (T.2 h), if_pos (by omega), if_neg (by omega), w64 (by omega)]
  · rw [if_neg (fun e => h (T.1 e)), if_pos (by omega)]
theorem test_eq {b x y : Int} (hb : IsB b) (hx : Wd b x) (hy : Wd b y) (c : Int) : ∃ r, impl_holds.f c b x y = some r ∧ spec_l01Test.f c b x y = some r := by
  unfold impl_holds.f spec_l01Test.f
  rw [sg_impl hb hx, sg_impl hb hy, sg_spec hb hx, sg_spec hb hy]
  simp only [Option.bind_some]
  repeat' split
  all_goals exact ⟨_, rfl, rfl⟩
theorem wrapped_impl {b : Int} (hb : IsB b) (x : Int) : impl_wrapped.f b x = some (x % pw b) := by
  have F := bf hb
  have B := pw_bounds hb
  unfold impl_wrapped.f
  rw [if_pos (by omega), F.s, F.m]
  rcases hb with rfl | rfl | rfl
  · rw [and_mask x 4 (by omega) _ (by decide)]; rfl
  · rw [and_mask x 8 (by omega) _ (by decide)]; rfl
  · rw [and_mask x 16 (by omega) _ (by decide)]; rfl
theorem wrapped_spec {b : Int} (hb : IsB b) (x : Int) : spec_l01Wrap.f b x = some (x % pw b) := by
  have F := bf hb
  have B := pw_bounds hb
  rw [← wrapped_impl hb x]
  unfold spec_l01Wrap.f impl_wrapped.f
  rw [F.u]
theorem nearest_impl {b : Int} (hb : IsB b) (x : Int) : impl_nearest.f b x = some ((mx (-(pw b / 2)) (mn x (pw b / 2 - 1))) % pw b) := by
  have F := bf hb
  have B := pw_bounds hb
  unfold impl_nearest.f impl_bounded.f
  rw [if_pos F.w1, F.h, w64 (by omega), w64 (by omega)]
  simp only [Option.bind_some, wrapped_impl hb]
theorem between_spec (n lo hi : Int) (h : lo ≤ hi) : spec_l01Between.f n lo hi = some (mx lo (mn n hi)) := by
  unfold spec_l01Between.f spec_l00Max.f spec_l00Min.f mx mn
  by_cases h1 : lo > n <;> by_cases h2 : hi < n <;> by_cases h3 : hi < lo <;> simp [h1, h2, h3] <;> (repeat' split) <;> omega
theorem bits_words {b x y : Int} (hb : IsB b) (hx : Wd b x) (hy : Wd b y) : Wd b (Go.bits .and .i64 x y) ∧ Wd b (Go.bits .or .i64 x y) ∧ Wd b (Go.bits .xor .i64 x y) := by
  have B := pw_bounds hb
  obtain ⟨hx0, hx1⟩ := hx
  obtain ⟨hy0, hy1⟩ := hy
  obtain ⟨m, rfl⟩ := Int.eq_ofNat_of_zero_le hx0
  obtain ⟨n, rfl⟩ := Int.eq_ofNat_of_zero_le hy0
  obtain ⟨i, hi, hp⟩ : ∃ i : Nat, i ≤ 16 ∧ pw b = ((2 ^ i : Nat) : Int) := by
    rcases hb with rfl | rfl | rfl
    · exact ⟨4, by omega, by decide⟩
    · exact ⟨8, by omega, by decide⟩
    · exact ⟨16, by omega, by decide⟩
  rw [hp] at hx1 hy1
  have hm : m < 2 ^ i := by omega
  have hn : n < 2 ^ i := by omega
  have h16 : 2 ^ i ≤ 65536 := by have := Nat.pow_le_pow_right (n := 2) (by decide) hi; omega
  have e : ∀ z : Nat, z < 2 ^ i → (BitVec.ofInt 64 (z : Int)).toNat = z := fun z hz => by
    rw [BitVec.toNat_ofInt, Int.emod_eq_of_lt (by omega) (by omega)]; simp
  have g : ∀ z : Nat, z < 2 ^ i → Wd b (IntKind.i64.wrap (z : Int)) := fun z hz => by
    rw [IntKind.wrap_i64]; unfold Wd; rw [hp]; omega
  refine ⟨?_, ?_, ?_⟩
  · have := g (m &&& n) (Nat.and_lt_two_pow _ hn)
    have e3 : Go.bits .and .i64 (m : Int) (n : Int) = IntKind.i64.wrap ((BitVec.ofInt 64 (m : Int) &&& BitVec.ofInt 64 (n : Int)).toNat : Int) := rfl
    rw [e3, BitVec.toNat_and, e m hm, e n hn]; exact this
  · have := g (m ||| n) (Nat.or_lt_two_pow hm hn)
    have e3 : Go.bits .or .i64 (m : Int) (n : Int) = IntKind.i64.wrap ((BitVec.ofInt 64 (m : Int) ||| BitVec.ofInt 64 (n : Int)).toNat : Int) := rfl
    rw [e3, BitVec.toNat_or, e m hm, e n hn]; exact this
  · have := g (m ^^^ n) (Nat.xor_lt_two_pow hm hn)
    have e3 : Go.bits .xor .i64 (m : Int) (n : Int) = IntKind.i64.wrap ((BitVec.ofInt 64 (m : Int) ^^^ BitVec.ofInt 64 (n : Int)).toNat : Int) := rfl
    rw [e3, BitVec.toNat_xor, e m hm, e n hn]; exact this
theorem wd_mod {b : Int} (hb : IsB b) (x : Int) : Wd b (x % pw b) := by
  have B := pw_bounds hb
  exact ⟨Int.emod_nonneg _ (by omega), Int.emod_lt_of_pos _ (by omega)⟩
theorem sg_mod {b x : Int} (hb : IsB b) (hx : Wd b x) : sg b x % pw b = x := by
  have B := pw_bounds hb
  obtain ⟨h0, h1⟩ := hx
  unfold sg
  split
  · exact Int.emod_eq_of_lt h0 h1
  · rw [Int.sub_emod_right]; exact Int.emod_eq_of_lt h0 h1
theorem sg_bounds {b x : Int} (hb : IsB b) (hx : Wd b x) : -32768 ≤ sg b x ∧ sg b x ≤ 32767 := by
  have B := pw_bounds hb
  obtain ⟨h0, h1⟩ := hx
  unfold sg; split <;> omega
theorem tmod_facts {b y : Int} (hb : IsB b) (hy : Wd b y) : 0 ≤ Int.tmod y b ∧ Int.tmod y b ≤ 15 ∧ IntKind.u64.wrap (Int.tmod y b) = Int.tmod y b := by
  have B := pw_bounds hb
  obtain ⟨h0, h1⟩ := hy
  have h2 : Int.tmod y b = y % b := Int.tmod_eq_emod_of_nonneg h0
  have h3 := Int.emod_nonneg y (show b ≠ 0 by omega)
  have h4 := Int.emod_lt_of_pos y (show 0 < b by omega)
  rw [h2]
  refine ⟨h3, by omega, ?_⟩
  have : IntKind.u64.wrap (y % b) = (y % b) % 18446744073709551616 := by simp [IntKind.wrap, IntKind.bits, IntKind.signed]
  rw [this]; omega
set_option maxHeartbeats 1000000 in
/-- An operation on words: the program's is the reference's, and gives a word. -/
theorem do_eq {b x y : Int} (hb : IsB b) (hx : Wd b x) (hy : Wd b y) (o : Int) (h0 : 0 ≤ o) (h1 : o ≤ 17) : ∃ r, impl_result.f o b x y = some r ∧ spec_l01Do.f o b x y = some r ∧ Wd b r := by
  have F := bf hb
  have B := pw_bounds hb
  have X := hx
  have Y := hy
  obtain ⟨hx0, hx1⟩ := X
  obtain ⟨hy0, hy1⟩ := Y
  have T := tmod_facts hb hy
  have W := bits_words hb hx hy
  have S1 := sg_bounds hb hx
  have S2 := sg_bounds hb hy
  unfold impl_result.f spec_l01Do.f
  rw [sg_impl hb hx, sg_impl hb hy, sg_spec hb hx, sg_spec hb hy, F.u, F.u1, if_pos (show 0 ≤ b by omega), if_neg (show ¬ b = 0 by omega), if_pos F.w1, T.2.2]
  simp only [Option.bind_some, F.s, F.h, F.m, wrapped_impl hb, wrapped_spec hb, nearest_impl hb, if_pos T.1, if_neg (show ¬ b = 0 by omega), if_pos (show 0 ≤ b by omega)]
  rw [w64 (x := -(pw b / 2)) (by omega), w64 (x := pw b / 2 - 1) (by omega), between_spec _ _ _ (by omega), between_spec _ _ _ (by omega)]
  obtain rfl | rfl | rfl | rfl | rfl | rfl | rfl | rfl | rfl | rfl | rfl | rfl | rfl | rfl | rfl | rfl | rfl | rfl : o = 0 ∨ o = 1 ∨ o = 2 ∨ o = 3 ∨ o = 4 ∨ o = 5 ∨ o = 6 ∨ o = 7 ∨ o = 8 ∨ o = 9 ∨ o = 10 ∨ o = 11 ∨ o = 12 ∨ o = 13 ∨ o = 14 ∨ o = 15 ∨ o = 16 ∨ o = 17 := by omega
  all_goals simp (config := { decide := true }) only [if_true, if_false, Option.bind_some]
  · exact ⟨_, rfl, rfl, wd_mod hb _⟩
  · exact ⟨_, rfl, rfl, wd_mod hb _⟩
  · exact ⟨_, rfl, rfl, wd_mod hb _⟩
  · exact ⟨_, rfl, rfl, W.1⟩
  · exact ⟨_, rfl, rfl, W.2.1⟩
  · exact ⟨_, rfl, rfl, W.2.2⟩
  · refine ⟨_, rfl, ?_, ?_⟩
    · unfold spec_l00Min.f mn; split <;> split <;> simp <;> omega
    · unfold mn; split <;> assumption
  · refine ⟨_, rfl, ?_, ?_⟩
    · unfold spec_l00Max.f mx; split <;> split <;> simp <;> omega
    · unfold mx; split <;> assumption
  · unfold impl_pick.f spec_l00Min.f
    by_cases h : sg b x ≤ sg b y
    · rw [if_pos (by simpa using h)]
      refine ⟨_, rfl, ?_, hx⟩
      split
      · simp [wrapped_spec hb, sg_mod hb hx]
      · have : sg b y = sg b x := by omega
        simp [wrapped_spec hb, this, sg_mod hb hx]
    · rw [if_neg (by simpa using h)]
      refine ⟨_, rfl, ?_, hy⟩
      rw [if_neg (by omega)]
      simp [wrapped_spec hb, sg_mod hb hy]
  · unfold impl_pick.f spec_l00Max.f
    by_cases h : sg b x ≥ sg b y
    · rw [if_pos (by simpa using h)]
      refine ⟨_, rfl, ?_, hx⟩
      split
      · simp [wrapped_spec hb, sg_mod hb hx]
      · have : sg b y = sg b x := by omega
        simp [wrapped_spec hb, this, sg_mod hb hx]
    · rw [if_neg (by simpa using h)]
      refine ⟨_, rfl, ?_, hy⟩
      rw [if_neg (by omega)]
      simp [wrapped_spec hb, sg_mod hb hy]
  · unfold impl_bounded.f spec_l00Min.f
    rw [w64 (x := x + y) (by omega)]
    refine ⟨_, rfl, ?_, ?_⟩
    · unfold mx mn; repeat' split
      all_goals (simp; try omega)
    · unfold mx mn Wd; repeat' split
      all_goals omega
  · exact ⟨_, rfl, rfl, wd_mod hb _⟩
  · unfold impl_bounded.f spec_l00Max.f
    rw [w64 (x := x - y) (by omega)]
    refine ⟨_, rfl, ?_, ?_⟩
    · unfold mx mn; repeat' split
      all_goals (simp; try omega)
    · unfold mx mn Wd; repeat' split
      all_goals omega
  · exact ⟨_, rfl, rfl, wd_mod hb _⟩
  · refine ⟨_, rfl, rfl, ?_⟩
    rw [w64 (x := x + y) (by omega), w64 (x := x + y + 1) (by omega), Int.tdiv_eq_ediv_of_nonneg (by omega), w64 (by omega)]
    unfold Wd; omega
  · exact ⟨_, rfl, rfl, wd_mod hb _⟩
  · refine ⟨_, rfl, rfl, ?_⟩
    unfold shr Wd
    have hp : (0 : Int) < 2 ^ min (y.tmod b).toNat IntKind.i64.bits := Int.pow_pos (by decide)
    refine ⟨Int.ediv_nonneg hx0 (by omega), ?_⟩
    have := Int.ediv_le_self (2 ^ min (y.tmod b).toNat IntKind.i64.bits) hx0
    omega
  · exact ⟨_, rfl, rfl, wd_mod hb _⟩
end Go.Proofs.Ytfpcfaapoeeipaa.Ops
namespace Go.Proofs.Ytfpcfaapoeeipaa.Lns
open Go.RowKit Go.Proofs.YtfpcfaapoeeipaaW.PrintWords Go.Proofs.YtfpcfaapoeeipaaW.PrintLast Go.Proofs.YtfpcfaapoeeipaaW.PrintMore Go.Proofs.Ytfpcfaapoeeipaa.P Go.Proofs.Ytfpcfaapoeeipaa.Ops
theorem within_impl (n lo hi : Int) : impl_within.f n lo hi = some (decide (lo ≤ n ∧ n ≤ hi)) := by
  unfold impl_within.f
  by_cases h : lo ≤ n <;> simp [h]
theorem in_spec (n lo hi : Int) : spec_l00In.f n lo hi = some (decide (lo ≤ n ∧ n ≤ hi)) := by
  unfold spec_l00In.f
  by_cases h : lo ≤ n <;> simp [h]
def isB (b : Int) : Bool := decide (b = 4 ∨ b = 8 ∨ b = 16)
theorem isB_iff {b : Int} : isB b = true ↔ IsB b := by simp [isB, IsB]
theorem bits_impl (b : Int) : impl_isBits.f b = some (isB b) := by
  unfold impl_isBits.f isB
  by_cases h : b = 4 <;> by_cases h2 : b = 8 <;> by_cases h3 : b = 16 <;> simp [h, h2, h3] <;> omega
theorem bits_spec (b : Int) : spec_l01Bits.f b = some (isB b) := bits_impl b
def isW (b x : Int) : Bool := isB b && decide (0 ≤ x ∧ x ≤ pw b - 1)
theorem isW_iff {b x : Int} (hb : IsB b) : isW b x = true ↔ Wd b x := by
  unfold isW Wd; rw [isB_iff.2 hb]; simp; omega
theorem word_impl (b x : Int) : impl_IsWord.f b x = some (isW b x) := by
  unfold impl_IsWord.f isW
  rw [bits_impl]
  simp only [Option.bind_some]
  by_cases h : isB b = true
  · have hb := isB_iff.1 h
    have B := pw_bounds hb
    rw [if_pos h, if_pos (by omega), (bf hb).s, (bf hb).m, within_impl, h]; simp
  · simp only [Bool.not_eq_true] at h; rw [h]; simp
theorem word_spec (b x : Int) : spec_l01Word.f b x = some (isW b x) := by
  unfold spec_l01Word.f isW
  rw [bits_spec]
  simp only [Option.bind_some]
  by_cases h : isB b = true
  · have hb := isB_iff.1 h
    have B := pw_bounds hb
    rw [if_pos h, (bf hb).u, if_pos (by omega), (bf hb).s, (bf hb).m, in_spec, h]; simp
  · simp only [Bool.not_eq_true] at h; rw [h]; simp
def isV (n : Int) : Bool := decide (0 ≤ n ∧ n ≤ 7)
def isO (n : Int) : Bool := decide (0 ≤ n ∧ n ≤ 17)
def isC (n : Int) : Bool := decide (0 ≤ n ∧ n ≤ 5)
def lineOk (b k d o a c : Int) : Bool :=
  if k = 0 then isV d && (isO o && (isV a && isV c))
  else if k = 1 then isV d && (decide (o = 0) && (decide (a = 0) && isW b c))
  else if k = 2 ∨ k = 6 then decide (d = 0) && (isC o && (isV a && isV c))
  else if k = 3 ∨ k = 4 then decide (d = 0) && (decide (o = 0) && (decide (a = 0) && decide (c = 0)))
  else if k = 5 then decide (d = 0) && (decide (o = 0) && (decide (a = 0) && decide (1 ≤ c ∧ c ≤ 8)))
  else false
theorem line_impl (n : Nat) (b k d o a c : Int) : impl_isLine.f (n + 2) b k d o a c = some (lineOk b k d o a c) := by
  unfold impl_isLine.f lineOk
  simp only [impl_isLine.j0, impl_isLine.j1, impl_isVar.f, impl_isOp.f, impl_isCmp.f, within_impl, word_impl, Option.bind_some]
  have e1 : ∀ z : Int, decide (0 ≤ z ∧ z ≤ 7) = isV z := fun _ => rfl
  have e2 : ∀ z : Int, decide (0 ≤ z ∧ z ≤ 17) = isO z := fun _ => rfl
  have e3 : ∀ z : Int, decide (0 ≤ z ∧ z ≤ 5) = isC z := fun _ => rfl
  simp only [e1, e2, e3]
  by_cases h0 : k = 0
  · subst h0; simp only [if_true]; cases isV d <;> cases isO o <;> cases isV a <;> cases isV c <;> rfl
  by_cases h1 : k = 1
  · subst h1; simp; by_cases ho : o = 0 <;> by_cases ha : a = 0 <;> cases isV d <;> cases isW b c <;> simp [ho, ha]
  by_cases h2 : k = 2
  · subst h2; simp; by_cases hd : d = 0 <;> cases isC o <;> cases isV a <;> cases isV c <;> simp [hd]
  by_cases h6 : k = 6
  · subst h6; simp; by_cases hd : d = 0 <;> cases isC o <;> cases isV a <;> cases isV c <;> simp [hd]
  by_cases h3 : k = 3
  · subst h3; simp; by_cases hd : d = 0 <;> by_cases ho : o = 0 <;> by_cases ha : a = 0 <;> by_cases hc : c = 0 <;> simp [hd, ho, ha, hc]
  by_cases h4 : k = 4
  · subst h4; simp; by_cases hd : d = 0 <;> by_cases ho : o = 0 <;> by_cases ha : a = 0 <;> by_cases hc : c = 0 <;> simp [hd, ho, ha, hc]
  by_cases h5 : k = 5
  · subst h5; simp; by_cases hd : d = 0 <;> by_cases ho : o = 0 <;> by_cases ha : a = 0 <;> simp [hd, ho, ha]
  simp [h0, h1, h2, h3, h4, h5, h6]
theorem line_spec (n : Nat) (b k d o a c : Int) : spec_l08Line.f (n + 2) b k d o a c = some (lineOk b k d o a c) := by
  unfold spec_l08Line.f lineOk
  simp only [spec_l08Line.j0, spec_l08Line.j1, spec_l08Var.f, spec_l01OpIs.f, spec_l01CmpIs.f, in_spec, word_spec, Option.bind_some]
  have e1 : ∀ z : Int, decide (0 ≤ z ∧ z ≤ 7) = isV z := fun _ => rfl
  have e2 : ∀ z : Int, decide (0 ≤ z ∧ z ≤ 17) = isO z := fun _ => rfl
  have e3 : ∀ z : Int, decide (0 ≤ z ∧ z ≤ 5) = isC z := fun _ => rfl
  simp only [e1, e2, e3]
  by_cases h0 : k = 0
  · subst h0; simp only [if_true]; cases isV d <;> cases isO o <;> cases isV a <;> cases isV c <;> rfl
  by_cases h1 : k = 1
  · subst h1; simp; by_cases ho : o = 0 <;> by_cases ha : a = 0 <;> cases isV d <;> cases isW b c <;> simp [ho, ha]
  by_cases h2 : k = 2
  · subst h2; simp; by_cases hd : d = 0 <;> cases isC o <;> cases isV a <;> cases isV c <;> simp [hd]
  by_cases h6 : k = 6
  · subst h6; simp; by_cases hd : d = 0 <;> cases isC o <;> cases isV a <;> cases isV c <;> simp [hd]
  by_cases h3 : k = 3
  · subst h3; simp; by_cases hd : d = 0 <;> by_cases ho : o = 0 <;> by_cases ha : a = 0 <;> by_cases hc : c = 0 <;> simp [hd, ho, ha, hc]
  by_cases h4 : k = 4
  · subst h4; simp; by_cases hd : d = 0 <;> by_cases ho : o = 0 <;> by_cases ha : a = 0 <;> by_cases hc : c = 0 <;> simp [hd, ho, ha, hc]
  by_cases h5 : k = 5
  · subst h5; simp; by_cases hd : d = 0 <;> by_cases ho : o = 0 <;> by_cases ha : a = 0 <;> simp [hd, ho, ha]
  simp [h0, h1, h2, h3, h4, h5, h6]
end Go.Proofs.Ytfpcfaapoeeipaa.Lns
namespace Go.Proofs.Ytfpcfaapoeeipaa.Stat
open Go.RowKit Go.Proofs.YtfpcfaapoeeipaaW.PrintWords Go.Proofs.YtfpcfaapoeeipaaW.PrintLast Go.Proofs.YtfpcfaapoeeipaaW.PrintMore Go.Proofs.Ytfpcfaapoeeipaa.P Go.Proofs.Ytfpcfaapoeeipaa.Ops Go.Proofs.Ytfpcfaapoeeipaa.Lns
def kd (l : List S75) (i : Int) : Int := (rd_T75 l i).f0
def nxt (k : Int) (i : Int) (O : List Int) : List Int := if k = 2 ∨ k = 5 then O ++ [i] else if k = 4 then O.dropLast else O
def opens (l : List S75) : Nat → List Int
  | 0 => []
  | i + 1 => nxt (kd l i) i (opens l i)
theorem opens_lt (l : List S75) : ∀ (i : Nat) (x : Int), x ∈ opens l i → ∃ b : Nat, x = b ∧ b < i
  | 0, x, h => by simp [opens] at h
  | i + 1, x, h => by
    have ih := opens_lt l i x
    unfold opens nxt at h
    split at h
    · rcases List.mem_append.1 h with h | h
      · obtain ⟨b, e, hb⟩ := ih h; exact ⟨b, e, by omega⟩
      · simp at h; exact ⟨i, h, by omega⟩
    · split at h
      · obtain ⟨b, e, hb⟩ := ih (List.dropLast_subset _ h); exact ⟨b, e, by omega⟩
      · obtain ⟨b, e, hb⟩ := ih h; exact ⟨b, e, by omega⟩
structure Cl (l : List S75) (out : List Int) (j : Nat) : Prop where
  k2 : kd l j = 2 → ∃ t : Nat, rd out j = t ∧ j < t ∧ t < l.length ∧ opens l t = opens l j ++ [(j : Int)] ∧ (kd l t = 3 ∨ kd l t = 4)
  k3 : kd l j = 3 → ∃ (b t : Nat) (A : List Int), opens l j = A ++ [(b : Int)] ∧ kd l b = 2 ∧ rd out j = t ∧ j < t ∧ t < l.length ∧ kd l t = 4 ∧ opens l t = opens l j
  k4 : kd l j = 4 → ∃ b : Nat, rd out j = b ∧ b < j ∧ (kd l b = 2 ∨ kd l b = 5) ∧ opens l j = opens l b ++ [(b : Int)]
  k6 : kd l j = 6 → ∃ (t b : Nat) (A C : List Int), opens l j = A ++ (b : Int) :: C ∧ kd l b = 5 ∧ (∀ c, c ∈ C → kd l c ≠ 5) ∧ rd out j = t ∧ j < t ∧ t < l.length ∧ kd l t = 4 ∧ opens l t = A ++ [(b : Int)]
theorem Cl.move {l : List S75} {out out' : List Int} {j : Nat} (h : Cl l out j) (e : rd out' j = rd out j) : Cl l out' j :=
  ⟨fun k => by rw [e]; exact h.k2 k, fun k => by rw [e]; exact h.k3 k, fun k => by rw [e]; exact h.k4 k, fun k => by rw [e]; exact h.k6 k⟩
def rnd (l : List S75) : List Int → Int → Int
  | [], p => p
  | b :: O, p => rnd l O (if kd l b = 5 then (if p * (rd_T75 l b).f4 < 65 then p * (rd_T75 l b).f4 else 65) else p)
theorem rnd_snoc (l : List S75) : ∀ (O : List Int) (b p : Int), rnd l (O ++ [b]) p = rnd l [b] (rnd l O p)
  | [], _, _ => rfl
  | _ :: O, b, p => rnd_snoc l O b _
inductive Stk (l : List S75) (out els : List Int) (i : Nat) : List Int → List Int → List (List Int) → List Int → List (List Int) → List Int → Prop
  | nil : Stk l out els i [] [] [] [] [] [1]
  | ifs {O La : List Int} {T : List (List Int)} {L : List Int} {S : List (List Int)} {R : List Int} (b e : Nat) : Stk l out els i O La T L S R → b < i → kd l b = 2 → opens l b = O →
      ((e = b ∧ (b : Int) ∉ els) ∨ (b < e ∧ e < i ∧ kd l e = 3 ∧ (b : Int) ∈ els ∧ rd out b = e ∧ opens l e = O ++ [(b : Int)])) →
      Stk l out els i (O ++ [(b : Int)]) (La ++ [(e : Int)]) (T ++ [[]]) L S R
  | loop {O La : List Int} {T : List (List Int)} {L : List Int} {S : List (List Int)} {R : List Int} (b : Nat) (s : List Int) : Stk l out els i O La T L S R → b < i → kd l b = 5 → opens l b = O →
      (∀ k, k ∈ s → ∃ (j : Nat) (C : List Int), k = j ∧ b < j ∧ j < i ∧ kd l j = 6 ∧ opens l j = O ++ (b : Int) :: C ∧ ∀ c, c ∈ C → kd l c ≠ 5) → s.length ≤ i →
      1 ≤ lastI R * (rd_T75 l b).f4 → lastI R * (rd_T75 l b).f4 ≤ 64 →
      Stk l out els i (O ++ [(b : Int)]) (La ++ [(b : Int)]) (T ++ [s]) (L ++ [(b : Int)]) (S ++ [s]) (R ++ [lastI R * (rd_T75 l b).f4])
theorem lastI_snoc (R : List Int) (x : Int) : lastI (R ++ [x]) = x := by simp [lastI]
section
variable {l : List S75} {out els : List Int} {i : Nat} {O La : List Int} {T : List (List Int)} {L : List Int} {S : List (List Int)} {R : List Int}
theorem Stk.len (h : Stk l out els i O La T L S R) : La.length = O.length ∧ T.length = O.length ∧ S.length = L.length ∧ R.length = L.length + 1 ∧ L.length ≤ O.length := by
  induction h with
  | nil => simp
  | ifs b e h _ _ _ _ ih => simp; omega
  | loop b s h _ _ _ _ _ _ _ ih => simp; omega
theorem Stk.rounds (h : Stk l out els i O La T L S R) : lastI R = rnd l O 1 ∧ 1 ≤ lastI R ∧ lastI R ≤ 64 := by
  induction h with
  | nil => simp [lastI, rnd]
  | ifs b e h hb hk ho he ih =>
    rw [rnd_snoc, ← ih.1]
    refine ⟨?_, ih.2⟩
    have : ¬ kd l (b : Int) = 5 := by omega
    simp [rnd, this]
  | loop b s h hb hk ho hs hl h1 h2 ih =>
    rw [rnd_snoc, ← ih.1, lastI_snoc]
    refine ⟨?_, h1, h2⟩
    simp only [rnd, hk, if_true]
    rw [if_pos (by omega)]
theorem Stk.mem (h : Stk l out els i O La T L S R) : ∀ x, x ∈ O → ∃ b : Nat, x = b ∧ b < i ∧ (kd l b = 2 ∨ kd l b = 5) := by
  induction h with
  | nil => simp
  | ifs b e h hb hk ho he ih =>
    intro x hx
    rcases List.mem_append.1 hx with hx | hx
    · exact ih x hx
    · simp at hx; exact ⟨b, hx, hb, .inl hk⟩
  | loop b s h hb hk ho hs hl h1 h2 ih =>
    intro x hx
    rcases List.mem_append.1 hx with hx | hx
    · exact ih x hx
    · simp at hx; exact ⟨b, hx, hb, .inr hk⟩
theorem Stk.move (h : Stk l out els i O La T L S R) {out' els' : List Int} {i' : Nat} (hi : i ≤ i') (ho : ∀ b : Nat, (b : Int) ∈ O → rd out' b = rd out b) (he : ∀ b : Nat, (b : Int) ∈ O → ((b : Int) ∈ els' ↔ (b : Int) ∈ els)) : Stk l out' els' i' O La T L S R := by
  induction h with
  | nil => exact .nil
  | ifs b e h hb hk hO hee ih =>
    have h1 := ih (fun c hc => ho c (List.mem_append_left _ hc)) (fun c hc => he c (List.mem_append_left _ hc))
    have h2 := ho b (by simp)
    have h3 := he b (by simp)
    refine .ifs b e h1 (by omega) hk hO ?_
    rcases hee with ⟨e1, e2⟩ | ⟨e1, e2, e3, e4, e5, e6⟩
    · exact .inl ⟨e1, fun hc => e2 (h3.1 hc)⟩
    · exact .inr ⟨e1, by omega, e3, h3.2 e4, h2.trans e5, e6⟩
  | loop b s h hb hk hO hs hl h1 h2 ih =>
    refine .loop b s (ih (fun c hc => ho c (List.mem_append_left _ hc)) (fun c hc => he c (List.mem_append_left _ hc))) (by omega) hk hO (fun k hk => ?_) (by omega) h1 h2
    obtain ⟨j, C, e1, e2, e3, e4⟩ := hs k hk
    exact ⟨j, C, e1, e2, by omega, e4⟩
theorem Stk.top {b : Int} {O' : List Int} (h : Stk l out els i O La T L S R) (e : O = O' ++ [b]) :
    (∃ (La' : List Int) (T' : List (List Int)) (c e : Nat), b = c ∧ La = La' ++ [(e : Int)] ∧ T = T' ++ [[]] ∧ Stk l out els i O' La' T' L S R ∧ c < i ∧ kd l c = 2 ∧ opens l c = O' ∧ ((e = c ∧ (c : Int) ∉ els) ∨ (c < e ∧ e < i ∧ kd l e = 3 ∧ (c : Int) ∈ els ∧ rd out c = e ∧ opens l e = O' ++ [(c : Int)]))) ∨
    (∃ (La' : List Int) (T' : List (List Int)) (L' : List Int) (S' : List (List Int)) (R' : List Int) (c : Nat) (s : List Int), b = c ∧ La = La' ++ [(c : Int)] ∧ T = T' ++ [s] ∧ L = L' ++ [(c : Int)] ∧ S = S' ++ [s] ∧ R = R' ++ [lastI R' * (rd_T75 l c).f4] ∧ Stk l out els i O' La' T' L' S' R' ∧ c < i ∧ kd l c = 5 ∧ opens l c = O' ∧
      (∀ k, k ∈ s → ∃ (j : Nat) (C : List Int), k = j ∧ c < j ∧ j < i ∧ kd l j = 6 ∧ opens l j = O' ++ (c : Int) :: C ∧ ∀ x, x ∈ C → kd l x ≠ 5) ∧ s.length ≤ i) := by
  cases h with
  | nil => simp at e
  | ifs c e' h hb hk hO hee =>
    have e2 := List.append_inj' e rfl
    obtain ⟨rfl, e3⟩ := e2
    injection e3 with e3
    subst e3
    exact .inl ⟨_, _, c, e', rfl, rfl, rfl, h, hb, hk, hO, hee⟩
  | loop c s h hb hk hO hs hl h1 h2 =>
    have e2 := List.append_inj' e rfl
    obtain ⟨rfl, e3⟩ := e2
    injection e3 with e3
    subst e3
    exact .inr ⟨_, _, _, _, _, c, s, rfl, rfl, rfl, rfl, rfl, rfl, h, hb, hk, hO, hs, hl⟩
theorem Stk.nil_of (h : Stk l out els i O La T L S R) (e : O = []) : La = [] ∧ T = [] ∧ L = [] ∧ S = [] ∧ R = [1] := by
  cases h with
  | nil => exact ⟨rfl, rfl, rfl, rfl, rfl⟩
  | ifs => simp at e
  | loop => simp at e
end
theorem rd_nat (xs : List Int) (j : Nat) : rd xs (j : Int) = xs.getD j 0 := rfl
theorem rd_set (xs : List Int) (a : Nat) (v : Int) (j : Nat) (h : a < xs.length) : rd (xs.set a v) (j : Int) = if j = a then v else rd xs (j : Int) := by
  rw [rd_nat, rd_nat]
  by_cases e : j = a
  · subst e; simp [h]
  · rw [if_neg e]; simp [List.getD, List.getElem?_set, Ne.symm e]
theorem rd_append_last (xs : List Int) (x : Int) : rd (xs ++ [x]) (xs.length : Int) = x := by
  rw [rd_nat]; simp [List.getD]
theorem setAll_some (i : Int) : ∀ (ks out : List Int), (∀ k, k ∈ ks → ∃ j : Nat, k = j ∧ j < out.length) →
    ∃ out', setAll i ks out = some out' ∧ out'.length = out.length ∧ ∀ j : Nat, rd out' j = if (j : Int) ∈ ks then i else rd out j
  | [], out, _ => ⟨out, rfl, rfl, fun j => by simp⟩
  | k :: ks, out, h => by
    obtain ⟨m, rfl, hm⟩ := h k (by simp)
    obtain ⟨o, h1, h2, h3⟩ := setAll_some i ks (out.set m i) (fun k hk => by rw [List.length_set]; exact h k (by simp [hk]))
    refine ⟨o, ?_, by rw [h2, List.length_set], fun j => ?_⟩
    · unfold setAll; rw [if_pos (by unfold inB; omega)]; exact h1
    · rw [h3, rd_set _ _ _ _ hm]
      by_cases e : j = m
      · subst e; simp
      · have : ¬ ((j : Int) = (m : Int)) := by omega
        simp [e, this]
theorem w64n (i : Nat) (h : i ≤ 100000) : wrap64 ((i : Int) + 1) = ((i + 1 : Nat) : Int) := by rw [w64 (by omega)]; omega
end Go.Proofs.Ytfpcfaapoeeipaa.Stat
namespace Go.Proofs.Ytfpcfaapoeeipaa.Stat
open Go.RowKit Go.Proofs.YtfpcfaapoeeipaaW.PrintWords Go.Proofs.YtfpcfaapoeeipaaW.PrintLast Go.Proofs.YtfpcfaapoeeipaaW.PrintMore Go.Proofs.Ytfpcfaapoeeipaa.P Go.Proofs.Ytfpcfaapoeeipaa.Ops Go.Proofs.Ytfpcfaapoeeipaa.Lns
theorem evif {α : Type} {c : Prop} [Decidable c] {a b : Nat → Option α} {r : α} (h : c) (k : Ev a r) : Ev (fun n => if c then a n else b n) r := by simp only [if_pos h]; exact k
theorem evelse {α : Type} {c : Prop} [Decidable c] {a b : Nat → Option α} {r : α} (h : ¬ c) (k : Ev b r) : Ev (fun n => if c then a n else b n) r := by simp only [if_neg h]; exact k
section
variable {l : List S75} {n : Nat}
theorem drop_cons_rd (xs : List Int) (q : Nat) (h : q < xs.length) : xs.drop q = rd xs (q : Int) :: xs.drop (q + 1) := by
  rw [List.drop_eq_getElem_cons h, rd_nat]; simp [List.getD, h]
theorem sp_rounds0 (hB : ∀ b : Nat, b < l.length → kd l b = 5 → 1 ≤ (rd_T75 l b).f4 ∧ (rd_T75 l b).f4 ≤ 8) (O : List Int) (hO : ∀ x, x ∈ O → ∃ b : Nat, x = b ∧ b < l.length) (hn : O.length ≤ 100000) :
    ∀ (d q : Nat) (p : Int), O.length - q = d → q ≤ O.length → 1 ≤ p → p ≤ 65 → Ev (fun k => spec_l08Rounds.l0 k l O p q) (rnd l (O.drop q) p) := by
  intro d
  induction d with
  | zero =>
    intro q p hd hq h1 h2
    have : q = O.length := by omega
    subst this
    rw [List.drop_length]
    refine Ev.step (f := fun _ => some p) (fun k => ?_) (Ev.now _)
    simp only [spec_l08Rounds.l0]
    rw [if_neg (by omega)]
  | succ d ih =>
    intro q p hd hq h1 h2
    have hlt : q < O.length := by omega
    obtain ⟨b, hb, hbl⟩ := hO (rd O q) (by rw [rd_nat]; simp [List.getD, hlt])
    rw [drop_cons_rd O q hlt, hb]
    refine Ev.step (f := fun k => spec_l08Rounds.l0 k l O (if kd l b = 5 then (if p * (rd_T75 l b).f4 < 65 then p * (rd_T75 l b).f4 else 65) else p) ((q + 1 : Nat) : Int)) (fun k => ?_) ?_
    · simp only [spec_l08Rounds.l0]
      rw [if_pos (by omega), if_pos (by omega), hb, if_pos (by omega), if_pos (by omega), w64n q (by omega)]
      by_cases hk : kd l b = 5
      · have hf := hB b hbl hk
        have hk' := hk
        unfold kd at hk'
        rw [if_pos hk', if_pos hk]
        have hp : 1 ≤ p * (rd_T75 l b).f4 ∧ p * (rd_T75 l b).f4 ≤ 520 := by
          constructor
          · have := Int.mul_le_mul h1 hf.1 (by decide) (by omega); omega
          · have := Int.mul_le_mul h2 hf.2 (by omega) (by decide); omega
        rw [w64 (by omega)]
        unfold spec_l00Min.f
        split <;> rfl
      · have hk' := hk
        unfold kd at hk'
        rw [if_neg hk', if_neg hk]
    · refine ih (q + 1) _ (by omega) (by omega) ?_ ?_
      · split
        · rename_i hk
          have hf := hB b hbl hk
          split
          · have := Int.mul_le_mul h1 hf.1 (by decide) (by omega); omega
          · omega
        · exact h1
      · split
        · split <;> omega
        · exact h2
theorem sp_rounds (hB : ∀ b : Nat, b < l.length → kd l b = 5 → 1 ≤ (rd_T75 l b).f4 ∧ (rd_T75 l b).f4 ≤ 8) (O : List Int) (hO : ∀ x, x ∈ O → ∃ b : Nat, x = b ∧ b < l.length) (hn : O.length ≤ 100000) :
    Ev (fun k => spec_l08Rounds.f k l O) (rnd l O 1) := by
  have := sp_rounds0 hB O hO hn O.length 0 1 (by omega) (by omega) (by omega) (by omega)
  rw [List.drop_zero] at this
  exact this
theorem sp1 {out O La : List Int} {T : List (List Int)} {i : Nat} {r : List Int × Bool} (hlo : out.length = l.length) (hi : i < l.length)
    (h : Ev (fun k => spec_l08Pairs.j3 k l out O La T i O.length (kd l i) (decide (kd l i = 2 ∨ kd l i = 5))) r) : Ev (fun k => spec_l08Pairs.l1 k l out O La T i) r := by
  refine Ev.step (fun k => ?_) h
  simp only [spec_l08Pairs.l1]
  rw [if_pos (by omega), if_pos (by omega), if_pos (by omega)]
  by_cases h2 : kd l i = 2
  · have h2' := h2; unfold kd at h2'; rw [if_pos h2']; simp [h2, h2', kd]
  · have h2' := h2; unfold kd at h2'; rw [if_neg h2']
    by_cases h5 : kd l i = 5
    · have h5' := h5; unfold kd at h5'; simp [h5', kd]
    · have h5' := h5; unfold kd at h5'
      rw [show ((rd_T75 l i).f0 == 5) = decide (kd l i = 2 ∨ kd l i = 5) by rw [decide_eq_false (by omega)]; exact beq_eq_false_iff_ne.mpr h5']; rfl
theorem sp_plain {out O La : List Int} {T : List (List Int)} {i : Nat} {r : List Int × Bool} (hlo : out.length = l.length) (hi : i < l.length) (hn : l.length ≤ 100000)
    (hk : kd l i = 0 ∨ kd l i = 1) (h : Ev (fun k => spec_l08Pairs.l1 k l out O La T ((i + 1 : Nat) : Int)) r) : Ev (fun k => spec_l08Pairs.l1 k l out O La T i) r := by
  refine sp1 hlo hi (Ev.step (fun k => ?_) h)
  simp only [spec_l08Pairs.j3]
  rw [if_neg (by simp; omega), if_neg (by omega), if_neg (by omega), if_neg (by omega), w64n i (by omega)]
theorem sp_open {out O La : List Int} {T : List (List Int)} {i : Nat} (hlo : out.length = l.length) (hi : i < l.length) (hn : l.length ≤ 100000)
    (hB : ∀ b : Nat, b < l.length → kd l b = 5 → 1 ≤ (rd_T75 l b).f4 ∧ (rd_T75 l b).f4 ≤ 8) (hO : ∀ x, x ∈ O → ∃ b : Nat, x = b ∧ b < l.length)
    (hk : kd l i = 2 ∨ kd l i = 5) (h1 : O.length ≤ 4) (h2 : La.length = O.length) (h3 : T.length = O.length) :
    ((4 < O.length + 1 ∨ 64 < rnd l (O ++ [(i : Int)]) 1) → Ev (fun k => spec_l08Pairs.l1 k l out O La T i) (out, false)) ∧
    (¬ (4 < O.length + 1 ∨ 64 < rnd l (O ++ [(i : Int)]) 1) → ∀ r, Ev (fun k => spec_l08Pairs.l1 k l out (O ++ [(i : Int)]) (La ++ [(i : Int)]) (T ++ [[]]) ((i + 1 : Nat) : Int)) r → Ev (fun k => spec_l08Pairs.l1 k l out O La T i) r) := by
  have hr := sp_rounds hB (O ++ [(i : Int)]) (fun x hx => by
    rcases List.mem_append.1 hx with hx | hx
    · exact hO x hx
    · simp at hx; exact ⟨i, hx, hi⟩) (by simp; omega)
  have e : wrap64 ((O.length : Int) + 1) = ((O.length + 1 : Nat) : Int) := w64n _ (by omega)
  have hd : decide (kd l i = 2 ∨ kd l i = 5) = true := decide_eq_true hk
  constructor
  · intro hf
    refine sp1 hlo hi ?_
    rw [hd]
    by_cases h4 : 4 < O.length + 1
    · refine Ev.step (f := fun _ => some (out, false)) (fun k => ?_) (Ev.now _)
      simp only [spec_l08Pairs.j3, if_true, Option.bind_some]
      rw [if_pos (by omega), if_pos (by omega), if_pos (by omega), e, if_pos (by omega)]
    · refine Ev.step (f := fun k => (spec_l08Rounds.f k l (O ++ [(i : Int)])).bind fun t => if t > 64 then some (out, false) else spec_l08Pairs.l1 k l out (O ++ [(i : Int)]) (La ++ [(i : Int)]) (T ++ [[]]) ((i + 1 : Nat) : Int)) (fun k => ?_) (Ev.bind hr ?_)
      · simp only [spec_l08Pairs.j3, if_true, Option.bind_some]
        rw [if_pos (by omega), if_pos (by omega), if_pos (by omega), e, if_neg (by omega), w64n i (by omega)]
      · exact evif (by omega) (Ev.now _)
  · intro hf r h
    refine sp1 hlo hi ?_
    rw [hd]
    refine Ev.step (f := fun k => (spec_l08Rounds.f k l (O ++ [(i : Int)])).bind fun t => if t > 64 then some (out, false) else spec_l08Pairs.l1 k l out (O ++ [(i : Int)]) (La ++ [(i : Int)]) (T ++ [[]]) ((i + 1 : Nat) : Int)) (fun k => ?_) (Ev.bind hr ?_)
    · simp only [spec_l08Pairs.j3, if_true, Option.bind_some]
      rw [if_pos (by omega), if_pos (by omega), if_pos (by omega), e, if_neg (by omega), w64n i (by omega)]
    · exact evelse (by omega) h
theorem sp_else_none {out O La : List Int} {T : List (List Int)} {i : Nat} (hlo : out.length = l.length) (hi : i < l.length) (hk : kd l i = 3) (h1 : O = []) :
    Ev (fun k => spec_l08Pairs.l1 k l out O La T i) (out, false) := by
  refine sp1 hlo hi (Ev.step (f := fun _ => some (out, false)) (fun k => ?_) (Ev.now _))
  simp only [spec_l08Pairs.j3]
  rw [if_neg (by simp; omega), if_pos hk, if_pos (by simp [h1])]
theorem sp_else {out O La : List Int} {T : List (List Int)} {i e : Nat} (hlo : out.length = l.length) (hi : i < l.length) (hn : l.length ≤ 100000) (hk : kd l i = 3) (h1 : O.length = La.length + 1) (h4 : O.length ≤ 4) (he : e < l.length) :
    (kd l e ≠ 2 → Ev (fun k => spec_l08Pairs.l1 k l out O (La ++ [(e : Int)]) T i) (out, false)) ∧
    (kd l e = 2 → ∀ r, Ev (fun k => spec_l08Pairs.l1 k l (out.set e i) O (La ++ [(i : Int)]) T ((i + 1 : Nat) : Int)) r → Ev (fun k => spec_l08Pairs.l1 k l out O (La ++ [(e : Int)]) T i) r) := by
  have e1 : wrap64 ((O.length : Int) - 1) = (La.length : Int) := by rw [w64 (by omega)]; omega
  have e2 : rd (La ++ [(e : Int)]) (La.length : Int) = e := rd_append_last _ _
  constructor
  · intro h2
    have h2' := h2; unfold kd at h2'
    refine sp1 hlo hi (Ev.step (f := fun _ => some (out, false)) (fun k => ?_) (Ev.now _))
    simp only [spec_l08Pairs.j3]
    rw [if_neg (by simp; omega), if_pos hk, if_neg (by omega), e1, if_pos (by omega), if_pos (by simp; omega), e2, if_pos (by omega), if_pos (by omega), if_neg h2']
  · intro h2 r h
    have h2' := h2; unfold kd at h2'
    refine sp1 hlo hi (Ev.step (fun k => ?_) h)
    simp only [spec_l08Pairs.j3]
    rw [if_neg (by simp; omega), if_pos hk, if_neg (by omega), e1, if_pos (by omega), if_pos (by simp; omega), e2, if_pos (by omega), if_pos (by omega), if_pos h2', if_pos (by omega), w64n i (by omega)]
    simp
theorem sp_l2 {O La : List Int} {T : List (List Int)} {i m : Nat} {s : List Int} {r : List Int × Bool} (hi : i < l.length) (hn : l.length ≤ 100000) (hO : O.length = m + 1) (hLa : La.length = m + 1) (hT : T.length = m) (hm : m ≤ 4) (hsl : s.length ≤ 100000) :
    ∀ (d q : Nat) (out out' : List Int), s.length - q = d → q ≤ s.length → out.length = l.length → (∀ k, k ∈ s → ∃ j : Nat, k = j ∧ j < l.length) → setAll i (s.drop q) out = some out' →
    Ev (fun k => spec_l08Pairs.l1 k l out' (O.take m) (La.take m) T ((i + 1 : Nat) : Int)) r → Ev (fun k => spec_l08Pairs.l2 k l out O La (T ++ [s]) i (O.length : Int) q) r := by
  have e1 : wrap64 ((O.length : Int) - 1) = (m : Int) := by rw [w64 (by omega)]; omega
  have e2 : rd_L3 (T ++ [s]) (m : Int) = s := by simp [rd_L3, List.getD, ← hT]
  have e3 : (T ++ [s]).take m = T := by rw [← hT]; simp
  intro d
  induction d with
  | zero =>
    intro q out out' hd hq hlo hs hset h
    have : q = s.length := by omega
    subst this
    rw [List.drop_length] at hset
    simp only [setAll, Option.some.injEq] at hset
    subst hset
    refine Ev.step (fun k => ?_) h
    simp only [spec_l08Pairs.l2]
    rw [e1, if_pos (by omega), if_pos (by simp; omega), e2, if_neg (by omega), if_pos (by omega), if_pos (by omega), if_pos (by simp; omega), w64n i (by omega), show ((m : Int)).toNat = m by omega, e3]
  | succ d ih =>
    intro q out out' hd hq hlo hs hset h
    have hlt : q < s.length := by omega
    obtain ⟨j, hj, hjl⟩ := hs (rd s q) (by rw [rd_nat]; simp [List.getD, hlt])
    rw [drop_cons_rd s q hlt, hj] at hset
    simp only [setAll] at hset
    rw [if_pos (by unfold inB; omega)] at hset
    refine Ev.step (fun k => ?_) (ih (q + 1) (out.set j i) out' (by omega) (by omega) (by rw [List.length_set]; exact hlo) hs (by simpa using hset) h)
    simp only [spec_l08Pairs.l2]
    rw [e1, if_pos (by omega), if_pos (by simp; omega), e2, if_pos (by omega), if_pos (by omega), hj, if_pos (by omega), if_pos (by omega), w64n q (by omega)]
    simp
theorem sp_end_none {out O La : List Int} {T : List (List Int)} {i : Nat} (hlo : out.length = l.length) (hi : i < l.length) (hk : kd l i = 4) (h1 : O = []) :
    Ev (fun k => spec_l08Pairs.l1 k l out O La T i) (out, false) := by
  refine sp1 hlo hi (Ev.step (f := fun _ => some (out, false)) (fun k => ?_) (Ev.now _))
  simp only [spec_l08Pairs.j3]
  rw [if_neg (by simp; omega), if_neg (by omega), if_pos hk, if_pos (by simp [h1])]
theorem sp_end {out O La s : List Int} {T : List (List Int)} {i b e : Nat} {out' : List Int} (hlo : out.length = l.length) (hi : i < l.length) (hn : l.length ≤ 100000) (hk : kd l i = 4) (hLa : La.length = O.length) (hT : T.length = O.length) (hO : O.length ≤ 3) (he : e < l.length) (hsl : s.length ≤ 100000)
    (hs : ∀ k, k ∈ s → ∃ j : Nat, k = j ∧ j < l.length) (hset : setAll i s ((out.set e i).set i b) = some out') {r : List Int × Bool}
    (h : Ev (fun k => spec_l08Pairs.l1 k l out' O La T ((i + 1 : Nat) : Int)) r) : Ev (fun k => spec_l08Pairs.l1 k l out (O ++ [(b : Int)]) (La ++ [(e : Int)]) (T ++ [s]) i) r := by
  have hl2 := sp_l2 (l := l) (O := O ++ [(b : Int)]) (La := La ++ [(e : Int)]) (T := T) (i := i) (m := O.length) (s := s) (r := r) hi hn (by simp) (by simp [hLa]) hT (by omega) hsl s.length 0 ((out.set e i).set i b) out' (by omega) (by omega) (by simp [hlo]) hs (by simpa using hset) (by
    have e1 : (O ++ [(b : Int)]).take O.length = O := by simp
    have e2 : (La ++ [(e : Int)]).take O.length = La := by rw [← hLa]; simp
    rw [e1, e2]; exact h)
  have e1 : wrap64 (((O ++ [(b : Int)]).length : Int) - 1) = (O.length : Int) := by rw [w64 (by simp; omega)]; simp
  have e2 : rd (La ++ [(e : Int)]) (O.length : Int) = e := by rw [← hLa]; exact rd_append_last _ _
  have e3 : rd (O ++ [(b : Int)]) (O.length : Int) = b := rd_append_last _ _
  refine sp1 hlo hi (Ev.step (fun k => ?_) hl2)
  simp only [spec_l08Pairs.j3]
  rw [if_neg (by simp; omega), if_neg (by omega), if_pos hk, if_neg (by simp; omega), e1, if_pos (by omega), if_pos (by simp; omega), e2, if_pos (by omega), if_pos (by omega), if_pos (by simp; omega), if_pos (by omega), if_pos (by omega), e3]
  simp
theorem sp_l3_none {out O La : List Int} {T : List (List Int)} {i : Nat} (hO : ∀ x, x ∈ O → (∃ b : Nat, x = b ∧ b < l.length) ∧ kd l x ≠ 5) (h4 : O.length ≤ 4) :
    ∀ c : Nat, c ≤ O.length → Ev (fun k => spec_l08Pairs.l3 k l out O La T i ((c : Int) - 1)) (out, false) := by
  intro c
  induction c with
  | zero =>
    intro _
    refine Ev.step (f := fun _ => some (out, false)) (fun k => ?_) (Ev.now _)
    simp only [spec_l08Pairs.l3]
    rw [if_neg (by omega), if_pos (by omega)]
  | succ c ih =>
    intro hc
    obtain ⟨⟨b, hb, hbl⟩, hk⟩ := hO (rd O c) (by rw [rd_nat]; simp [List.getD, show c < O.length by omega])
    rw [show (((c + 1 : Nat) : Int) - 1) = (c : Int) by omega]
    refine Ev.step (fun k => ?_) (ih (by omega))
    unfold kd at hk
    simp only [spec_l08Pairs.l3]
    rw [if_pos (by omega), if_pos (by omega), if_pos (by omega), if_pos (by omega), if_pos (by omega), if_neg hk, w64 (by omega)]
theorem sp_l3 {out A C La : List Int} {T : List (List Int)} {i b : Nat} {r : List Int × Bool} (hb : kd l b = 5) (hbl : b < l.length) (hC : ∀ x, x ∈ C → (∃ c : Nat, x = c ∧ c < l.length) ∧ kd l x ≠ 5) (hT : A.length < T.length) (h4 : (A ++ (b : Int) :: C).length ≤ 4) (hi : i < l.length) (hn : l.length ≤ 100000) (hs : (T.getD A.length []).length ≤ 100000)
    (h : Ev (fun k => spec_l08Pairs.l1 k l out (A ++ (b : Int) :: C) La (T.set A.length (T.getD A.length [] ++ [(i : Int)])) ((i + 1 : Nat) : Int)) r) :
    ∀ c : Nat, c ≤ C.length → Ev (fun k => spec_l08Pairs.l3 k l out (A ++ (b : Int) :: C) La T i ((A.length + c : Nat) : Int)) r := by
  intro c
  simp only [List.length_append, List.length_cons] at h4
  induction c with
  | zero =>
    intro _
    have e : rd (A ++ (b : Int) :: C) ((A.length + 0 : Nat) : Int) = b := by rw [rd_nat]; simp [List.getD]
    refine Ev.step (fun k => ?_) h
    unfold kd at hb
    simp only [spec_l08Pairs.l3]
    rw [if_pos (by omega), if_pos (by omega), if_pos (by simp; omega), e, if_pos (by omega), if_pos (by omega), if_pos hb, if_neg (by omega), if_pos (by omega), if_pos (by show (T.getD (A.length + 0) []).length < _; rw [Nat.add_zero]; omega), w64n i (by omega)]
    rfl
  | succ c ih =>
    intro hc
    have e : rd (A ++ (b : Int) :: C) ((A.length + (c + 1) : Nat) : Int) = rd C (c : Int) := by
      rw [rd_nat, rd_nat]; simp [List.getD, List.getElem?_append_right]
    obtain ⟨⟨x, hx, hxl⟩, hk⟩ := hC (rd C c) (by rw [rd_nat]; simp [List.getD, show c < C.length by omega])
    refine Ev.step (fun k => ?_) (ih (by omega))
    unfold kd at hk
    simp only [spec_l08Pairs.l3]
    rw [if_pos (by omega), if_pos (by omega), if_pos (by simp; omega), e, if_pos (by omega), if_pos (by omega), if_neg hk, w64 (by omega), show (((A.length + (c + 1) : Nat) : Int) - 1) = ((A.length + c : Nat) : Int) by omega]
theorem sp_stop1 {out O La : List Int} {T : List (List Int)} {i : Nat} {r : List Int × Bool} (hlo : out.length = l.length) (hi : i < l.length) (hk : kd l i = 6) (h4 : O.length ≤ 4)
    (h : Ev (fun k => spec_l08Pairs.l3 k l out O La T i ((O.length : Int) - 1)) r) : Ev (fun k => spec_l08Pairs.l1 k l out O La T i) r := by
  refine sp1 hlo hi (Ev.step (fun k => ?_) h)
  simp only [spec_l08Pairs.j3]
  rw [if_neg (by simp; omega), if_neg (by omega), if_neg (by omega), if_pos hk, w64 (by omega)]
end
end Go.Proofs.Ytfpcfaapoeeipaa.Stat
namespace Go.Proofs.Ytfpcfaapoeeipaa.Stat
open Go.RowKit Go.Proofs.YtfpcfaapoeeipaaW.PrintWords Go.Proofs.YtfpcfaapoeeipaaW.PrintLast Go.Proofs.YtfpcfaapoeeipaaW.PrintMore Go.Proofs.Ytfpcfaapoeeipaa.P Go.Proofs.Ytfpcfaapoeeipaa.Ops Go.Proofs.Ytfpcfaapoeeipaa.Lns
theorem getD_append_left {α : Type} (T : List α) (s d : α) (a : Nat) (h : a < T.length) : (T ++ [s]).getD a d = T.getD a d := by simp [List.getD, List.getElem?_append_left h]
theorem getD_append_last {α : Type} (T : List α) (s d : α) (a : Nat) (h : a = T.length) : (T ++ [s]).getD a d = s := by subst h; simp [List.getD]
theorem set_append_left {α : Type} (T : List α) (s v : α) (a : Nat) (h : a < T.length) : (T ++ [s]).set a v = T.set a v ++ [s] := by rw [List.set_append]; simp [h]
theorem set_append_last {α : Type} (T : List α) (s v : α) (a : Nat) (h : a = T.length) : (T ++ [s]).set a v = T ++ [v] := by subst h; rw [List.set_append]; simp
section
variable {l : List S75} {out els : List Int} {i : Nat} {O La : List Int} {T : List (List Int)} {L : List Int} {S : List (List Int)} {R : List Int}
theorem Stk.noloop (h : Stk l out els i O La T L S R) (hL : L = []) : ∀ x, x ∈ O → kd l x ≠ 5 := by
  induction h with
  | nil => simp
  | ifs b e h hb hk ho he ih =>
    intro x hx
    rcases List.mem_append.1 hx with hx | hx
    · exact ih hL x hx
    · simp at hx; subst hx; omega
  | loop b s h hb hk ho hs hl h1 h2 ih => simp at hL
theorem Stk.stop (h : Stk l out els i O La T L S R) (hL : L ≠ []) : ∀ D : List Int, opens l i = O ++ D → (∀ x, x ∈ D → kd l x ≠ 5) → kd l i = 6 →
    ∃ (A C : List Int) (b : Nat), O = A ++ (b : Int) :: C ∧ kd l b = 5 ∧ b < i ∧ (∀ c, c ∈ C → kd l c ≠ 5) ∧ A.length < T.length ∧ T.getD A.length [] = S.getD (L.length - 1) [] ∧ (T.getD A.length []).length ≤ i ∧
      Stk l out els (i + 1) O La (T.set A.length (T.getD A.length [] ++ [(i : Int)])) L (S.set (L.length - 1) (S.getD (L.length - 1) [] ++ [(i : Int)])) R := by
  induction h with
  | nil => exact absurd rfl hL
  | ifs b e h hb hk ho he ih =>
    intro D hop hD hk6
    obtain ⟨A, C, c, e1, e2, e3, e4, e5, e6, e7, e8⟩ := ih hL ((b : Int) :: D) (by rw [hop]; simp) (by
      intro x hx
      rcases List.mem_cons.1 hx with hx | hx
      · subst hx; omega
      · exact hD x hx) hk6
    have hlen := h.len
    refine ⟨A, C ++ [(b : Int)], c, by rw [e1]; simp, e2, e3, ?_, by simp; omega, ?_, ?_, ?_⟩
    · intro x hx
      rcases List.mem_append.1 hx with hx | hx
      · exact e4 x hx
      · simp at hx; subst hx; omega
    · rw [getD_append_left _ _ _ _ e5]; exact e6
    · rw [getD_append_left _ _ _ _ e5]; exact e7
    · rw [getD_append_left _ _ _ _ e5, set_append_left _ _ _ _ e5]
      refine .ifs b e e8 (by omega) hk ho ?_
      rcases he with he | ⟨f1, f2, f3⟩
      · exact .inl he
      · exact .inr ⟨f1, by omega, f3⟩
  | loop b s h hb hk ho hs hl h1 h2 ih =>
    intro D hop hD hk6
    have hlen := h.len
    rename_i O0 La0 T0 L0 S0 R0
    refine ⟨O0, [], b, rfl, hk, hb, by simp, by simp; omega, ?_, ?_, ?_⟩
    · rw [getD_append_last _ _ _ _ (by omega), getD_append_last _ _ _ _ (by simp; omega)]
    · rw [getD_append_last _ _ _ _ (by omega)]; exact hl
    · rw [getD_append_last _ _ _ _ (by omega), getD_append_last _ _ _ _ (by simp; omega), set_append_last _ _ _ _ (by omega), set_append_last _ _ _ _ (by simp; omega)]
      refine .loop b (s ++ [(i : Int)]) (h.move (by omega) (fun _ _ => rfl) (fun _ _ => Iff.rfl)) (by omega) hk ho ?_ (by simp; omega) h1 h2
      intro k hk
      rcases List.mem_append.1 hk with hk | hk
      · obtain ⟨j, C, e1, e2, e3, e4⟩ := hs k hk
        exact ⟨j, C, e1, e2, by omega, e4⟩
      · simp at hk
        exact ⟨i, D, hk, hb, by omega, hk6, by rw [hop]; simp, hD⟩
end
def okAt (a0 : Int) (l : List S75) (j : Nat) : Bool := lineOk a0 (rd_T75 l j).f0 (rd_T75 l j).f1 (rd_T75 l j).f2 (rd_T75 l j).f3 (rd_T75 l j).f4
theorem okAt_kind {a0 : Int} {l : List S75} {j : Nat} (h : okAt a0 l j = true) : kd l j = 0 ∨ kd l j = 1 ∨ kd l j = 2 ∨ kd l j = 3 ∨ kd l j = 4 ∨ kd l j = 5 ∨ kd l j = 6 := by
  unfold okAt lineOk at h
  unfold kd
  repeat' (split at h)
  all_goals first | omega | (cases h)
theorem okAt_loop {a0 : Int} {l : List S75} {j : Nat} (h : okAt a0 l j = true) (hk : kd l j = 5) : 1 ≤ (rd_T75 l j).f4 ∧ (rd_T75 l j).f4 ≤ 8 := by
  unfold okAt lineOk at h
  unfold kd at hk
  rw [if_neg (by omega), if_neg (by omega), if_neg (by omega), if_neg (by omega), if_pos hk] at h
  simp at h
  omega
structure Inv (a0 : Int) (l : List S75) (i : Nat) (out O La : List Int) (T : List (List Int)) (s : PSt) : Prop where
  st : Stk l out s.els i O La T s.loops s.stops s.rounds
  op : O = opens l i
  l4 : O.length ≤ 4
  so : s.opn = O
  lo : out.length = l.length
  ls : s.out.length = l.length
  eq : ∀ j : Nat, j < i → rd s.out j = rd out j
  id : ∀ j : Nat, i ≤ j → j < l.length → rd out j = j
  ne : s.els.length ≤ i
  el : ∀ x, x ∈ s.els → ∃ b : Nat, x = b ∧ b < i
  cl : ∀ j : Nat, j < i → (j : Int) ∈ La ∨ (∃ t, t ∈ T ∧ (j : Int) ∈ t) ∨ Cl l out j
  ok : ∀ j : Nat, j < i → okAt a0 l j = true
  hl : ∀ j : Nat, j ≤ i → (opens l j).length ≤ 4
def Goal (a0 : Int) (l : List S75) (i : Nat) (out O La : List Int) (T : List (List Int)) (s : PSt) : Prop :=
  ∃ (r1 : List Int) (ok : Bool), (∀ k, impl_paired.go (k + 2) a0 l (l.drop i) i s = some (r1, ok)) ∧ ((∃ j, i ≤ j ∧ j < l.length ∧ okAt a0 l j = false) → ok = false) ∧
    ((∀ j, i ≤ j → j < l.length → okAt a0 l j = true) → ∃ r2, Ev (fun k => spec_l08Pairs.l1 k l out O La T i) (r2, ok) ∧ (ok = true → r1 = r2 ∧ r2.length = l.length ∧ opens l l.length = [] ∧ (∀ j, j < l.length → Cl l r2 j) ∧ ∀ j, j ≤ l.length → (opens l j).length ≤ 4))
theorem drop_cons_T (l : List S75) (i : Nat) (h : i < l.length) : l.drop i = rd_T75 l i :: l.drop (i + 1) := by
  rw [List.drop_eq_getElem_cons h]; simp [rd_T75, List.getD, h]
section
variable {a0 : Int} {l : List S75} {i : Nat} {out O La : List Int} {T : List (List Int)} {s : PSt}
theorem goal_fail (hi : i < l.length) (h : ∀ k, impl_paired.step (k + 2) a0 l i (rd_T75 l i) s = some none) (hs : (∀ j, i ≤ j → j < l.length → okAt a0 l j = true) → ∃ r2, Ev (fun k => spec_l08Pairs.l1 k l out O La T i) (r2, false)) : Goal a0 l i out O La T s := by
  refine ⟨[], false, fun k => ?_, fun _ => rfl, fun hv => ?_⟩
  · rw [drop_cons_T l i hi]; simp only [impl_paired.go, h, Option.bind_some]
  · obtain ⟨r2, h2⟩ := hs hv
    exact ⟨r2, h2, fun e => by cases e⟩
theorem goal_next {out' O' La' : List Int} {T' : List (List Int)} {s' : PSt} (hi : i < l.length) (hn : l.length ≤ 100000) (hv : okAt a0 l i = true) (h : ∀ k, impl_paired.step (k + 2) a0 l i (rd_T75 l i) s = some (some s'))
    (hs : (∀ j, i ≤ j → j < l.length → okAt a0 l j = true) → ∀ r, Ev (fun k => spec_l08Pairs.l1 k l out' O' La' T' ((i + 1 : Nat) : Int)) r → Ev (fun k => spec_l08Pairs.l1 k l out O La T i) r) (g : Goal a0 l (i + 1) out' O' La' T' s') : Goal a0 l i out O La T s := by
  obtain ⟨r1, ok, g1, g2, g3⟩ := g
  refine ⟨r1, ok, fun k => ?_, fun ⟨j, h1, h2, h3⟩ => g2 ⟨j, ?_, h2, h3⟩, fun hall => ?_⟩
  · rw [drop_cons_T l i hi]; simp only [impl_paired.go, h, Option.bind_some]
    exact g1 k
  · rcases Nat.lt_or_ge i j with h | h
    · omega
    · have : j = i := by omega
      subst this; rw [hv] at h3; cases h3
  · obtain ⟨r2, e1, e2⟩ := g3 (fun j h1 h2 => hall j (by omega) h2)
    exact ⟨r2, hs hall _ e1, e2⟩
theorem fin_ok {s : PSt} (h1 : s.opn.length ≤ 4) (h2 : 0 < s.rounds.length) (h3 : lastI s.rounds ≤ 64) : impl_paired.fin s = some (some s) := by
  unfold impl_paired.fin; rw [if_neg (by omega), if_pos h2, if_neg (by omega)]
theorem fin_bad {s : PSt} (h2 : 0 < s.rounds.length) (h : 4 < s.opn.length ∨ 64 < lastI s.rounds) : impl_paired.fin s = some none := by
  unfold impl_paired.fin
  by_cases h1 : 4 < s.opn.length
  · rw [if_pos h1]
  · rw [if_neg h1, if_pos h2, if_pos (by omega)]
theorem step_is (hi : i < l.length) (hls : s.out.length = l.length) (hv : okAt a0 l i = true) (k : Nat) : impl_paired.step (k + 2) a0 l i (rd_T75 l i) s =
    (impl_paired.sw l i (rd_T75 l i) { s with out := s.out.set i i }).bind fun q => match q with | none => some none | some s => impl_paired.fin s := by
  unfold impl_paired.step
  rw [if_pos (by unfold inB; omega), line_impl]
  unfold okAt at hv
  rw [hv]
  simp only [Option.bind_some, if_true]
  rfl
theorem step_bad (hi : i < l.length) (hls : s.out.length = l.length) (hv : okAt a0 l i = false) (k : Nat) : impl_paired.step (k + 2) a0 l i (rd_T75 l i) s = some none := by
  unfold impl_paired.step
  rw [if_pos (by unfold inB; omega), line_impl]
  unfold okAt at hv
  rw [hv]
  simp
theorem Inv.base (I : Inv a0 l i out O La T s) (hi : i < l.length) : ∀ j : Nat, j < i + 1 → rd (s.out.set i i) j = if j = i then (i : Int) else rd out j := by
  intro j hj
  rw [rd_set _ _ _ _ (by rw [I.ls]; exact hi)]
  by_cases e : j = i
  · simp [e]
  · simp [e]; exact I.eq j (by omega)
end
end Go.Proofs.Ytfpcfaapoeeipaa.Stat
namespace Go.Proofs.Ytfpcfaapoeeipaa.Stat
open Go.RowKit Go.Proofs.YtfpcfaapoeeipaaW.PrintWords Go.Proofs.YtfpcfaapoeeipaaW.PrintLast Go.Proofs.YtfpcfaapoeeipaaW.PrintMore Go.Proofs.Ytfpcfaapoeeipaa.P Go.Proofs.Ytfpcfaapoeeipaa.Ops Go.Proofs.Ytfpcfaapoeeipaa.Lns
section
variable {a0 : Int} {l : List S75} {i : Nat} {out O La : List Int} {T : List (List Int)} {s : PSt}
theorem Inv.eq_next (I : Inv a0 l i out O La T s) (hi : i < l.length) : ∀ j : Nat, j < i + 1 → rd (s.out.set i i) j = rd out j := by
  intro j hj
  rw [I.base hi j hj]
  by_cases e : j = i
  · subst e; rw [if_pos rfl]; exact (I.id j (Nat.le_refl _) hi).symm
  · rw [if_neg e]
theorem Inv.ok_next (I : Inv a0 l i out O La T s) (hv : okAt a0 l i = true) : ∀ j : Nat, j < i + 1 → okAt a0 l j = true := by
  intro j hj
  by_cases e : j = i
  · subst e; exact hv
  · exact I.ok j (by omega)
theorem Inv.el_next (I : Inv a0 l i out O La T s) : ∀ x, x ∈ s.els → ∃ b : Nat, x = b ∧ b < i + 1 := by
  intro x hx
  obtain ⟨b, e, hb⟩ := I.el x hx
  exact ⟨b, e, by omega⟩
theorem Inv.mem (I : Inv a0 l i out O La T s) (hi : i < l.length) : ∀ x, x ∈ O → ∃ b : Nat, x = b ∧ b < l.length := by
  intro x hx
  obtain ⟨b, e, hb, _⟩ := I.st.mem x hx
  exact ⟨b, e, by omega⟩
theorem Inv.hB (I : Inv a0 l i out O La T s) (h : ∀ j, i ≤ j → j < l.length → okAt a0 l j = true) : ∀ b : Nat, b < l.length → kd l b = 5 → 1 ≤ (rd_T75 l b).f4 ∧ (rd_T75 l b).f4 ≤ 8 := by
  intro b hb hk
  refine okAt_loop (a0 := a0) ?_ hk
  rcases Nat.lt_or_ge b i with h1 | h1
  · exact I.ok b h1
  · exact h b h1 hb
theorem Inv.hl_next (I : Inv a0 l i out O La T s) {O' : List Int} (h1 : O' = opens l (i + 1)) (h2 : O'.length ≤ 4) : ∀ j : Nat, j ≤ i + 1 → (opens l j).length ≤ 4 := by
  intro j hj
  rcases Nat.lt_or_ge j (i + 1) with h | h
  · exact I.hl j (by omega)
  · have : j = i + 1 := by omega
    subst this; rw [← h1]; exact h2
theorem step01 (hn : l.length ≤ 24) (hi : i < l.length) (I : Inv a0 l i out O La T s) (hv : okAt a0 l i = true) (hk : kd l i = 0 ∨ kd l i = 1)
    (g : ∀ s', Inv a0 l (i + 1) out O La T s' → Goal a0 l (i + 1) out O La T s') : Goal a0 l i out O La T s := by
  have hR := I.st.rounds
  have hL := I.st.len
  have hk' := hk
  unfold kd at hk'
  refine goal_next (s' := { s with out := s.out.set i i }) hi (by omega) hv (fun k => ?_) (fun _ r h => sp_plain I.lo hi (by omega) hk h) (g _ ?_)
  · rw [step_is hi I.ls hv]
    unfold impl_paired.sw
    rw [if_neg (by omega), if_neg (by omega), if_neg (by omega), if_neg (by omega), if_neg (by omega)]
    simp only [Option.bind_some]
    exact fin_ok (by simp only [I.so]; exact I.l4) (by simp only []; omega) hR.2.2
  · exact {
      st := I.st.move (by omega) (fun _ _ => rfl) (fun _ _ => Iff.rfl)
      op := by rw [I.op]; simp only [opens, nxt]; rw [if_neg (by omega), if_neg (by omega)]
      hl := I.hl_next (O' := O) (by rw [I.op]; simp only [opens, nxt]; rw [if_neg (by omega), if_neg (by omega)]) I.l4
      l4 := I.l4, so := I.so, lo := I.lo, ls := by simp [I.ls]
      eq := I.eq_next hi, id := fun j h1 h2 => I.id j (by omega) h2, ne := by have := I.ne; simp only []; omega, el := I.el_next, ok := I.ok_next hv
      cl := by
        intro j hj
        by_cases e : j = i
        · subst e; exact .inr (.inr ⟨fun h => by omega, fun h => by omega, fun h => by omega, fun h => by omega⟩)
        · exact I.cl j (by omega) }
theorem step25 (hn : l.length ≤ 24) (hi : i < l.length) (I : Inv a0 l i out O La T s) (hv : okAt a0 l i = true) (hk : kd l i = 2 ∨ kd l i = 5)
    (g : ∀ s', Inv a0 l (i + 1) out (O ++ [(i : Int)]) (La ++ [(i : Int)]) (T ++ [[]]) s' → Goal a0 l (i + 1) out (O ++ [(i : Int)]) (La ++ [(i : Int)]) (T ++ [[]]) s') : Goal a0 l i out O La T s := by
  have hR := I.st.rounds
  have hL := I.st.len
  have h4 := I.l4
  have hk' := hk
  unfold kd at hk'
  have hni : (i : Int) ∉ s.els := fun hm => by obtain ⟨b, e, hb⟩ := I.el _ hm; omega
  have hcl : ∀ j : Nat, j < i + 1 → (j : Int) ∈ La ++ [(i : Int)] ∨ (∃ t, t ∈ T ++ [[]] ∧ (j : Int) ∈ t) ∨ Cl l out j := by
    intro j hj
    by_cases e : j = i
    · subst e; exact .inl (by simp)
    · rcases I.cl j (by omega) with h | ⟨t, h1, h2⟩ | h
      · exact .inl (List.mem_append_left _ h)
      · exact .inr (.inl ⟨t, List.mem_append_left _ h1, h2⟩)
      · exact .inr (.inr h)
  have hop : O ++ [(i : Int)] = opens l (i + 1) := by rw [I.op]; simp only [opens, nxt]; rw [if_pos hk]
  have hst := I.st.move (i' := i + 1) (by omega) (fun _ _ => rfl) (fun _ _ => Iff.rfl)
  rcases hk with hk2 | hk5
  · have hk2' := hk2
    unfold kd at hk2'
    have hrn : rnd l (O ++ [(i : Int)]) 1 = lastI s.rounds := by
      rw [rnd_snoc, ← hR.1]; simp only [rnd]; rw [if_neg (by omega)]
    by_cases h5 : 4 < O.length + 1
    · refine goal_fail hi (fun k => ?_) (fun hall => ⟨out, (sp_open I.lo hi (by omega) (I.hB hall) (I.mem hi) (.inl hk2) h4 hL.1 hL.2.1).1 (.inl h5)⟩)
      rw [step_is hi I.ls hv]
      unfold impl_paired.sw
      rw [if_pos hk2', if_pos (by simp only [I.so]; omega)]
      simp only [Option.bind_some]
      exact fin_bad (by simp only []; omega) (.inl (by simp [I.so]; omega))
    · refine goal_next (s' := { s with out := s.out.set i i, opn := s.opn ++ [(i : Int)] }) hi (by omega) hv (fun k => ?_) (fun hall r h => (sp_open I.lo hi (by omega) (I.hB hall) (I.mem hi) (.inl hk2) h4 hL.1 hL.2.1).2 (by omega) r h) (g _ ?_)
      · rw [step_is hi I.ls hv]
        unfold impl_paired.sw
        rw [if_pos hk2', if_pos (by simp only [I.so]; omega)]
        simp only [Option.bind_some]
        exact fin_ok (by simp [I.so]; omega) (by simp only []; omega) hR.2.2
      · exact {
          st := .ifs i i hst (by omega) hk2 I.op.symm (.inl ⟨rfl, hni⟩)
          op := hop, hl := I.hl_next hop (by simp; omega), l4 := by simp; omega, so := by simp [I.so], lo := I.lo, ls := by simp [I.ls]
          eq := I.eq_next hi, id := fun j h1 h2 => I.id j (by omega) h2, ne := by have := I.ne; simp only []; omega, el := I.el_next, ok := I.ok_next hv, cl := hcl }
  · have hk5' := hk5
    unfold kd at hk5'
    have hf := okAt_loop hv hk5
    have hp : 1 ≤ lastI s.rounds * (rd_T75 l i).f4 ∧ lastI s.rounds * (rd_T75 l i).f4 ≤ 512 := by
      constructor
      · have := Int.mul_le_mul hR.2.1 hf.1 (by decide) (by omega); omega
      · have := Int.mul_le_mul hR.2.2 hf.2 (by omega) (by decide); omega
    have hrn : 64 < rnd l (O ++ [(i : Int)]) 1 ↔ 64 < lastI s.rounds * (rd_T75 l i).f4 := by
      rw [rnd_snoc, ← hR.1]; simp only [rnd]; rw [if_pos hk5]; split <;> omega
    have hsw : ∀ k : Nat, impl_paired.step (k + 2) a0 l i (rd_T75 l i) s = impl_paired.fin { s with out := s.out.set i i, opn := s.opn ++ [(i : Int)], loops := s.loops ++ [(i : Int)], stops := s.stops ++ [[]], rounds := s.rounds ++ [lastI s.rounds * (rd_T75 l i).f4] } := by
      intro k
      rw [step_is hi I.ls hv]
      unfold impl_paired.sw impl_paired.loop
      rw [if_neg (by omega), if_pos hk5', if_pos (by simp only [I.so]; omega), if_pos (by simp only []; omega)]
      simp only [Option.bind_some]
      rw [w64 (by omega)]
    by_cases h5 : 4 < O.length + 1 ∨ 64 < rnd l (O ++ [(i : Int)]) 1
    · refine goal_fail hi (fun k => ?_) (fun hall => ⟨out, (sp_open I.lo hi (by omega) (I.hB hall) (I.mem hi) (.inr hk5) h4 hL.1 hL.2.1).1 h5⟩)
      rw [hsw]
      refine fin_bad (by simp) ?_
      simp only [lastI_snoc, I.so]
      rcases h5 with h5 | h5
      · exact .inl (by simp; omega)
      · exact .inr (hrn.1 h5)
    · refine goal_next (s' := { s with out := s.out.set i i, opn := s.opn ++ [(i : Int)], loops := s.loops ++ [(i : Int)], stops := s.stops ++ [[]], rounds := s.rounds ++ [lastI s.rounds * (rd_T75 l i).f4] }) hi (by omega) hv (fun k => ?_) (fun hall r h => (sp_open I.lo hi (by omega) (I.hB hall) (I.mem hi) (.inr hk5) h4 hL.1 hL.2.1).2 h5 r h) (g _ ?_)
      · rw [hsw]
        refine fin_ok (by simp [I.so]; omega) (by simp) ?_
        simp only [lastI_snoc]; omega
      · exact {
          st := .loop i [] hst (by omega) hk5 I.op.symm (by simp) (by simp) hp.1 (by omega)
          op := hop, hl := I.hl_next hop (by simp; omega), l4 := by simp; omega, so := by simp [I.so], lo := I.lo, ls := by simp [I.ls]
          eq := I.eq_next hi, id := fun j h1 h2 => I.id j (by omega) h2, ne := by have := I.ne; simp only []; omega, el := I.el_next, ok := I.ok_next hv, cl := hcl }
theorem step6 (hn : l.length ≤ 24) (hi : i < l.length) (I : Inv a0 l i out O La T s) (hv : okAt a0 l i = true) (hk : kd l i = 6)
    (g : ∀ T' s', Inv a0 l (i + 1) out O La T' s' → Goal a0 l (i + 1) out O La T' s') : Goal a0 l i out O La T s := by
  have hR := I.st.rounds
  have hL := I.st.len
  have h4 := I.l4
  have hk' := hk
  unfold kd at hk'
  by_cases hnl : s.loops = []
  · refine goal_fail hi (fun k => ?_) (fun hall => ⟨out, sp_stop1 I.lo hi hk h4 (sp_l3_none (fun x hx => ⟨I.mem hi x hx, I.st.noloop hnl x hx⟩) h4 O.length (Nat.le_refl _))⟩)
    rw [step_is hi I.ls hv]
    unfold impl_paired.sw
    rw [if_neg (by omega), if_neg (by omega), if_neg (by omega), if_neg (by omega), if_pos hk', if_pos (by simp [hnl])]
    rfl
  · obtain ⟨A, C, b, e1, e2, e3, e4, e5, e6, e7, e8⟩ := I.st.stop hnl [] (by rw [I.op]; simp) (by simp) hk
    have hl0 : s.loops.length ≠ 0 := fun h => hnl (List.eq_nil_of_length_eq_zero h)
    refine goal_next (s' := { s with out := s.out.set i i, stops := s.stops.set (s.loops.length - 1) (s.stops.getD (s.loops.length - 1) [] ++ [(i : Int)]) }) hi (by omega) hv (fun k => ?_) (fun hall r h => ?_) (g (T.set A.length (T.getD A.length [] ++ [(i : Int)])) _ ?_)
    · rw [step_is hi I.ls hv]
      unfold impl_paired.sw impl_paired.stop
      rw [if_neg (by omega), if_neg (by omega), if_neg (by omega), if_neg (by omega), if_pos hk', if_neg (by simpa using hl0), if_pos (by simp only []; rw [← e6]; omega)]
      simp only [Option.bind_some]
      exact fin_ok (by simp only [I.so]; exact h4) (by simp only []; omega) hR.2.2
    · refine sp_stop1 I.lo hi hk h4 ?_
      have hO := I.mem hi
      have hlen : O.length = A.length + C.length + 1 := by rw [e1]; simp; omega
      rw [show ((O.length : Int) - 1) = ((A.length + C.length : Nat) : Int) by omega]
      rw [e1] at h ⊢
      exact sp_l3 e2 (by omega) (fun x hx => ⟨hO x (by rw [e1]; simp [hx]), e4 x hx⟩) e5 (by rw [← e1]; exact h4) hi (by omega) (by omega) h C.length (Nat.le_refl _)
    · exact {
        st := e8
        op := by rw [I.op]; simp only [opens, nxt]; rw [if_neg (by omega), if_neg (by omega)]
        hl := I.hl_next (O' := O) (by rw [I.op]; simp only [opens, nxt]; rw [if_neg (by omega), if_neg (by omega)]) h4
        l4 := h4, so := I.so, lo := I.lo, ls := by simp [I.ls]
        eq := I.eq_next hi, id := fun j h1 h2 => I.id j (by omega) h2, ne := by have := I.ne; simp only []; omega, el := I.el_next, ok := I.ok_next hv
        cl := by
          intro j hj
          have hset : (T.set A.length (T.getD A.length [] ++ [(i : Int)]))[A.length]? = some (T.getD A.length [] ++ [(i : Int)]) := by simp [e5]
          by_cases e : j = i
          · subst e; exact .inr (.inl ⟨_, List.mem_of_getElem? hset, by simp⟩)
          · rcases I.cl j (by omega) with h | ⟨t, h1, h2⟩ | h
            · exact .inl h
            · refine .inr (.inl ?_)
              obtain ⟨q, hq⟩ := List.mem_iff_getElem?.1 h1
              by_cases eq : q = A.length
              · subst eq
                refine ⟨_, List.mem_of_getElem? hset, List.mem_append_left _ ?_⟩
                rw [List.getD, hq]; exact h2
              · exact ⟨t, List.mem_of_getElem? (i := q) (by rw [List.getElem?_set]; simp [Ne.symm eq, hq]), h2⟩
            · exact .inr (.inr h) }
end
end Go.Proofs.Ytfpcfaapoeeipaa.Stat
namespace Go.Proofs.Ytfpcfaapoeeipaa.Stat
open Go.RowKit Go.Proofs.YtfpcfaapoeeipaaW.PrintWords Go.Proofs.YtfpcfaapoeeipaaW.PrintLast Go.Proofs.YtfpcfaapoeeipaaW.PrintMore Go.Proofs.Ytfpcfaapoeeipaa.P Go.Proofs.Ytfpcfaapoeeipaa.Ops Go.Proofs.Ytfpcfaapoeeipaa.Lns
section
variable {a0 : Int} {l : List S75} {i : Nat} {out O La : List Int} {T : List (List Int)} {s : PSt}
theorem snoc_of_ne {α : Type} (xs : List α) (h : xs ≠ []) : ∃ ys y, xs = ys ++ [y] := ⟨xs.dropLast, xs.getLast h, (List.dropLast_concat_getLast h).symm⟩
theorem step3 (hn : l.length ≤ 24) (hi : i < l.length) (I : Inv a0 l i out O La T s) (hv : okAt a0 l i = true) (hk : kd l i = 3)
    (g : ∀ out' La' s', Inv a0 l (i + 1) out' O La' T s' → Goal a0 l (i + 1) out' O La' T s') : Goal a0 l i out O La T s := by
  have hR := I.st.rounds
  have hL := I.st.len
  have h4 := I.l4
  have hk' := hk
  unfold kd at hk'
  have sw3 : ∀ s1 : PSt, s1.opn = O → impl_paired.sw l i (rd_T75 l i) s1 = if O.length = 0 then some none else impl_paired.els l i s1 := by
    intro s1 h1
    unfold impl_paired.sw
    rw [if_neg (by omega), if_neg (by omega), if_pos hk', h1]
  have sw3' := sw3 { s with out := s.out.set i i } I.so
  by_cases h0 : O = []
  · refine goal_fail hi (fun k => ?_) (fun _ => ⟨out, sp_else_none I.lo hi hk h0⟩)
    rw [step_is hi I.ls hv, sw3', if_pos (by simp [h0])]
    rfl
  · obtain ⟨O', b, eO⟩ := snoc_of_ne O h0
    have hl0 : O.length ≠ 0 := fun h => h0 (List.eq_nil_of_length_eq_zero h)
    have hlast : lastI O = b := by rw [eO]; exact lastI_snoc _ _
    rcases I.st.top eO with ⟨La', T', c, e, rfl, eLa, eT, h', hci, hkc, hoc, he⟩ | ⟨La', T', L', S', R', c, st, rfl, eLa, eT, eL, eS, eR, h', hci, hkc, hoc, hst, hsl⟩
    · have hkc' := hkc
      unfold kd at hkc'
      have hOl : O.length = O'.length + 1 := by rw [eO]; simp
      have hLl := h'.len
      have els1 : impl_paired.els l i { s with out := s.out.set i i } = if (c : Int) ∈ s.els then some none else some (some { s with els := (c : Int) :: s.els, out := (s.out.set i i).set c i }) := by
        unfold impl_paired.els
        rw [I.so, hlast, if_pos ⟨by unfold inB; omega, by unfold inB; simp [I.ls]; omega⟩, if_pos hkc']
        simp only []
        have := I.ne
        by_cases hm : (c : Int) ∈ s.els
        · rw [if_pos hm, if_pos hm]
        · rw [if_neg hm, if_neg hm, if_pos (by omega)]; rfl
      rcases he with ⟨rfl, hne⟩ | ⟨e1, e2, e3, e4, e5, e6⟩
      · have hsp := (sp_else (out := out) (O := O) (La := La') (T := T) (i := i) (e := e) I.lo hi (by omega) hk (by omega) h4 (by omega)).2 hkc
        refine goal_next (s' := { s with els := (e : Int) :: s.els, out := (s.out.set i i).set e i }) hi (by omega) hv (fun k => ?_) (fun hall r h => by rw [eLa]; exact hsp r h) (g (out.set e i) (La' ++ [(i : Int)]) _ ?_)
        · rw [step_is hi I.ls hv, sw3', if_neg hl0, els1, if_neg hne]
          simp only [Option.bind_some]
          exact fin_ok (by simp only [I.so]; exact h4) (by simp only []; omega) hR.2.2
        · have hrd : ∀ j : Nat, rd (out.set e i) (j : Int) = if j = e then (i : Int) else rd out (j : Int) := fun j => rd_set _ _ _ _ (by rw [I.lo]; omega)
          have hlt : ∀ b' : Nat, (b' : Int) ∈ O' → b' < e := fun b' hb' => by
            rw [← hoc] at hb'
            obtain ⟨x, e1, e2⟩ := opens_lt l e _ hb'
            omega
          have hnew := h'.move (out' := out.set e i) (els' := (e : Int) :: s.els) (i' := i + 1) (by omega) (fun b' hb' => by rw [hrd, if_neg (by have := hlt b' hb'; omega)]) (fun b' hb' => by
            have := hlt b' hb'
            simp only [List.mem_cons]
            constructor
            · rintro (h | h)
              · omega
              · exact h
            · exact .inr)
          exact {
            st := by
              rw [eO, eT]
              exact .ifs e i hnew (by omega) hkc hoc (.inr ⟨hci, by omega, hk, by simp, by rw [hrd, if_pos rfl], by rw [← I.op, eO]⟩)
            op := by rw [I.op]; simp only [opens, nxt]; rw [if_neg (by omega), if_neg (by omega)]
            hl := I.hl_next (O' := O) (by rw [I.op]; simp only [opens, nxt]; rw [if_neg (by omega), if_neg (by omega)]) h4
            l4 := h4, so := I.so, lo := by simp [I.lo], ls := by simp [I.ls]
            eq := fun j hj => by
              rw [rd_set _ _ _ _ (by simp [I.ls]; omega), hrd]
              by_cases ej : j = e
              · rw [if_pos ej, if_pos ej]
              · rw [if_neg ej, if_neg ej]; exact I.eq_next hi j hj
            id := fun j h1 h2 => by rw [hrd, if_neg (by omega)]; exact I.id j (by omega) h2
            ne := by have := I.ne; simp; omega
            el := fun x hx => by
              rcases List.mem_cons.1 hx with hx | hx
              · exact ⟨e, hx, by omega⟩
              · exact I.el_next x hx
            ok := I.ok_next hv
            cl := by
              intro j hj
              by_cases ei : j = i
              · subst ei; exact .inl (by simp)
              · by_cases ee : j = e
                · subst ee
                  exact .inr (.inr ⟨fun _ => ⟨i, by rw [hrd, if_pos rfl], hci, hi, by rw [← I.op, eO, hoc], .inl hk⟩, fun h => by omega, fun h => by omega, fun h => by omega⟩)
                · rcases I.cl j (by omega) with h | h | h
                  · rw [eLa] at h
                    rcases List.mem_append.1 h with h | h
                    · exact .inl (List.mem_append_left _ h)
                    · simp at h; omega
                  · exact .inr (.inl h)
                  · exact .inr (.inr (h.move (by rw [hrd, if_neg ee]))) }
      · have hsp := (sp_else (out := out) (O := O) (La := La') (T := T) (i := i) (e := e) I.lo hi (by omega) hk (by omega) h4 (by omega)).1 (by omega)
        refine goal_fail hi (fun k => ?_) (fun _ => ⟨out, by rw [eLa]; exact hsp⟩)
        rw [step_is hi I.ls hv, sw3', if_neg hl0, els1, if_pos e4]
        rfl
    · have hkc' := hkc
      unfold kd at hkc'
      have hOl : O.length = O'.length + 1 := by rw [eO]; simp
      have hLl := h'.len
      have hsp := (sp_else (out := out) (O := O) (La := La') (T := T) (i := i) (e := c) I.lo hi (by omega) hk (by omega) h4 (by omega)).1 (by omega)
      refine goal_fail hi (fun k => ?_) (fun _ => ⟨out, by rw [eLa]; exact hsp⟩)
      rw [step_is hi I.ls hv, sw3', if_neg hl0]
      unfold impl_paired.els
      simp only []
      rw [I.so, hlast, if_pos ⟨by unfold inB; omega, by unfold inB; simp [I.ls]; omega⟩, if_neg (by omega)]
      rfl
theorem step4 (hn : l.length ≤ 24) (hi : i < l.length) (I : Inv a0 l i out O La T s) (hv : okAt a0 l i = true) (hk : kd l i = 4)
    (g : ∀ out' O' La' T' s', Inv a0 l (i + 1) out' O' La' T' s' → Goal a0 l (i + 1) out' O' La' T' s') : Goal a0 l i out O La T s := by
  have hR := I.st.rounds
  have hL := I.st.len
  have h4 := I.l4
  have hk' := hk
  unfold kd at hk'
  have sw4 : ∀ s1 : PSt, s1.opn = O → impl_paired.sw l i (rd_T75 l i) s1 = if O.length = 0 then some none else impl_paired.endd l i s1 := by
    intro s1 h1
    unfold impl_paired.sw
    rw [if_neg (by omega), if_neg (by omega), if_neg (by omega), if_pos hk', h1]
  have sw4' := sw4 { s with out := s.out.set i i } I.so
  by_cases h0 : O = []
  · refine goal_fail hi (fun k => ?_) (fun _ => ⟨out, sp_end_none I.lo hi hk h0⟩)
    rw [step_is hi I.ls hv, sw4', if_pos (by simp [h0])]
    rfl
  obtain ⟨O', b, eO⟩ := snoc_of_ne O h0
  have hl0 : O.length ≠ 0 := fun h => h0 (List.eq_nil_of_length_eq_zero h)
  have hlast : lastI O = b := by rw [eO]; exact lastI_snoc _ _
  have hOl : O.length = O'.length + 1 := by rw [eO]; simp
  have htk : O.take (O.length - 1) = O' := by rw [eO]; simp
  have hopn : O' = opens l (i + 1) := by simp only [opens, nxt]; rw [if_neg (by omega), if_pos hk, ← I.op, eO]; simp
  have hni : (i : Int) ∉ s.els := fun hm => by obtain ⟨b, e, hb⟩ := I.el _ hm; omega
  rcases I.st.top eO with ⟨La', T', c, e, rfl, eLa, eT, h', hci, hkc, hoc, he⟩ | ⟨La', T', L', S', R', c, st, rfl, eLa, eT, eL, eS, eR, h', hci, hkc, hoc, hst, hsl⟩
  · have hkc' := hkc
    unfold kd at hkc'
    have hLl := h'.len
    have hce : c ≤ e ∧ e < i := by rcases he with h | h <;> omega
    have hlt : ∀ b' : Nat, (b' : Int) ∈ O' → b' < c := fun b' hb' => by
      rw [← hoc] at hb'
      obtain ⟨x, e1, e2⟩ := opens_lt l c _ hb'
      omega
    have hrd : ∀ j : Nat, rd ((out.set e i).set i c) (j : Int) = if j = i then (c : Int) else if j = e then (i : Int) else rd out (j : Int) := fun j => by
      rw [rd_set _ _ _ _ (by simp [I.lo]; omega), rd_set _ _ _ _ (by rw [I.lo]; omega)]
    have himp : impl_paired.endd l i { s with out := s.out.set i i } = some (some { s with out := ((s.out.set i i).set i c).set e i, opn := O' }) := by
      unfold impl_paired.endd
      simp only []
      rw [I.so, hlast, if_pos ⟨by unfold inB; omega, by unfold inB; simp [I.ls]; omega⟩, if_neg (by omega), htk]
      rcases he with ⟨rfl, hne⟩ | ⟨e1, e2, e3, e4, e5, e6⟩
      · rw [if_neg hne]; rfl
      · have hr : rd ((s.out.set i i).set ((i : Int).toNat) c) (c : Int) = e := by
          rw [show ((i : Int)).toNat = i by omega, rd_set _ _ _ _ (by simp [I.ls]; omega), if_neg (by omega), rd_set _ _ _ _ (by rw [I.ls]; omega), if_neg (by omega), I.eq c (by omega), e5]
        rw [if_pos e4, hr, if_pos (by unfold inB; simp [I.ls]; omega)]
        rfl
    refine goal_next (s' := { s with out := ((s.out.set i i).set i c).set e i, opn := O' }) hi (by omega) hv (fun k => ?_) (fun hall r h => ?_) (g ((out.set e i).set i c) O' La' T' _ ?_)
    · rw [step_is hi I.ls hv, sw4', if_neg hl0, himp]
      simp only [Option.bind_some]
      exact fin_ok (by simp only []; omega) (by simp only []; omega) hR.2.2
    · rw [eO, eLa, eT]
      exact sp_end I.lo hi (by omega) hk (by omega) (by omega) (by omega) (by omega) (by simp) (by simp) rfl h
    · exact {
        st := h'.move (by omega) (fun b' hb' => by have := hlt b' hb'; rw [hrd, if_neg (by omega), if_neg (by omega)]) (fun _ _ => Iff.rfl)
        op := hopn, hl := I.hl_next hopn (by omega), l4 := by omega, so := rfl, lo := by simp [I.lo], ls := by simp [I.ls]
        eq := fun j hj => by
          rw [rd_set _ _ _ _ (by simp [I.ls]; omega), rd_set _ _ _ _ (by simp [I.ls]; omega), hrd]
          by_cases ei : j = i
          · rw [if_pos ei, if_neg (by omega), if_pos ei]
          · rw [if_neg ei, if_neg ei]
            by_cases ee : j = e
            · rw [if_pos ee, if_pos ee]
            · rw [if_neg ee, if_neg ee]; exact I.eq_next hi j hj
        id := fun j h1 h2 => by rw [hrd, if_neg (by omega), if_neg (by omega)]; exact I.id j (by omega) h2
        ne := by have := I.ne; simp only []; omega
        el := I.el_next, ok := I.ok_next hv
        cl := by
          intro j hj
          by_cases ei : j = i
          · subst ei
            exact .inr (.inr ⟨fun h => by omega, fun h => by omega, fun _ => ⟨c, by rw [hrd, if_pos rfl], hci, .inl hkc, by rw [← I.op, eO, hoc]⟩, fun h => by omega⟩)
          by_cases ee : j = e
          · subst ee
            refine .inr (.inr ?_)
            rcases he with ⟨rfl, hne⟩ | ⟨e1, e2, e3, e4, e5, e6⟩
            · exact ⟨fun _ => ⟨i, by rw [hrd, if_neg ei, if_pos rfl], hci, hi, by rw [← I.op, eO, hoc], .inr hk⟩, fun h => by omega, fun h => by omega, fun h => by omega⟩
            · exact ⟨fun h => by omega, fun _ => ⟨c, i, O', e6, hkc, by rw [hrd, if_neg ei, if_pos rfl], e2, hi, hk, by rw [← I.op, eO, e6]⟩, fun h => by omega, fun h => by omega⟩
          rcases I.cl j (by omega) with h | ⟨t, h1, h2⟩ | h
          · rw [eLa] at h
            rcases List.mem_append.1 h with h | h
            · exact .inl h
            · simp at h; omega
          · rw [eT] at h1
            rcases List.mem_append.1 h1 with h1 | h1
            · exact .inr (.inl ⟨t, h1, h2⟩)
            · simp at h1; subst h1; simp at h2
          · exact .inr (.inr (h.move (by rw [hrd, if_neg ei, if_neg ee]))) }
  · have hkc' := hkc
    unfold kd at hkc'
    have hLl := h'.len
    have hlt : ∀ b' : Nat, (b' : Int) ∈ O' → b' < c := fun b' hb' => by
      rw [← hoc] at hb'
      obtain ⟨x, e1, e2⟩ := opens_lt l c _ hb'
      omega
    have hstl : ∀ k, k ∈ st → ∃ j : Nat, k = j ∧ j < l.length := fun k hk => by obtain ⟨j, C, e1, e2, e3, _⟩ := hst k hk; exact ⟨j, e1, by omega⟩
    obtain ⟨o1, p1, p2, p3⟩ := setAll_some i st ((out.set c i).set i c) (by simpa [I.lo] using hstl)
    obtain ⟨o2, q1, q2, q3⟩ := setAll_some i st (((s.out.set i i).set i c).set c i) (by simpa [I.ls] using hstl)
    have hrd : ∀ j : Nat, rd o1 (j : Int) = if (j : Int) ∈ st then (i : Int) else if j = i then (c : Int) else if j = c then (i : Int) else rd out (j : Int) := fun j => by
      rw [p3, rd_set _ _ _ _ (by simp [I.lo]; omega), rd_set _ _ _ _ (by rw [I.lo]; omega)]
    have hrd2 : ∀ j : Nat, j < i + 1 → rd o2 (j : Int) = rd o1 (j : Int) := fun j hj => by
      rw [q3, hrd]
      split
      · rfl
      rw [rd_set _ _ _ _ (by simp [I.ls]; omega), rd_set _ _ _ _ (by simp [I.ls]; omega)]
      by_cases ei : j = i
      · rw [if_pos ei, if_neg (by omega), if_pos ei]
      · rw [if_neg ei, if_neg ei]
        by_cases ee : j = c
        · rw [if_pos ee, if_pos ee]
        · rw [if_neg ee, if_neg ee]; exact I.eq_next hi j hj
    have hstn : ∀ b' : Nat, b' ≤ c → (b' : Int) ∉ st := fun b' hb' hm => by obtain ⟨j, C, e1, e2, _⟩ := hst _ hm; omega
    have hsti : (i : Int) ∉ st := fun hm => by obtain ⟨j, C, e1, e2, e3, _⟩ := hst _ hm; omega
    have hLs : s.loops.length = L'.length + 1 := by rw [eL]; simp
    have hSs : s.stops.length = S'.length + 1 := by rw [eS]; simp
    have hRs : s.rounds.length = R'.length + 1 := by rw [eR]; simp
    have hgd : s.stops.getD (s.loops.length - 1) [] = st := by rw [eS]; exact getD_append_last _ _ _ _ (by omega)
    have himp : impl_paired.endd l i { s with out := s.out.set i i } = some (some { s with out := o2, opn := O', loops := L', stops := S', rounds := R' }) := by
      unfold impl_paired.endd
      simp only []
      rw [I.so, hlast, if_pos ⟨by unfold inB; omega, by unfold inB; simp [I.ls]; omega⟩, if_pos hkc', if_pos ⟨by omega, by omega, by omega⟩, htk, hgd]
      rw [show ((i : Int)).toNat = i by omega, show ((c : Int)).toNat = c by omega, q1]
      simp only [Option.bind_some]
      have t1 : s.loops.take (s.loops.length - 1) = L' := by rw [eL]; simp
      have t2 : s.stops.take (s.loops.length - 1) = S' := by rw [show s.loops.length - 1 = S'.length by omega, eS]; simp
      have t3 : s.rounds.take (s.rounds.length - 1) = R' := by rw [eR]; simp
      rw [t1, t2, t3]
    have hR' := h'.rounds
    refine goal_next (s' := { s with out := o2, opn := O', loops := L', stops := S', rounds := R' }) hi (by omega) hv (fun k => ?_) (fun hall r h => ?_) (g o1 O' La' T' _ ?_)
    · rw [step_is hi I.ls hv, sw4', if_neg hl0, himp]
      simp only [Option.bind_some]
      exact fin_ok (by simp only []; omega) (by simp only []; omega) hR'.2.2
    · rw [eO, eLa, eT]
      exact sp_end I.lo hi (by omega) hk (by omega) (by omega) (by omega) (by omega) (by omega) hstl p1 h
    · exact {
        st := h'.move (by omega) (fun b' hb' => by have := hlt b' hb'; rw [hrd, if_neg (hstn b' (by omega)), if_neg (by omega), if_neg (by omega)]) (fun _ _ => Iff.rfl)
        op := hopn, hl := I.hl_next hopn (by omega), l4 := by omega, so := rfl, lo := by rw [p2]; simp [I.lo], ls := by simp only []; rw [q2]; simp [I.ls]
        eq := hrd2
        id := fun j h1 h2 => by
          rw [hrd, if_neg (fun hm => by obtain ⟨j', C, e1, e2, e3, _⟩ := hst _ hm; omega), if_neg (by omega), if_neg (by omega)]
          exact I.id j (by omega) h2
        ne := by have := I.ne; simp only []; omega
        el := I.el_next, ok := I.ok_next hv
        cl := by
          intro j hj
          by_cases es : (j : Int) ∈ st
          · obtain ⟨j', C, e1, e2, e3, e4, e5, e6⟩ := hst _ es
            have ejj : j' = j := by omega
            subst ejj
            exact .inr (.inr ⟨fun h => by omega, fun h => by omega, fun h => by omega, fun _ => ⟨i, c, O', C, e5, hkc, e6, by rw [hrd, if_pos es], e3, hi, hk, by rw [← I.op, eO]⟩⟩)
          by_cases ei : j = i
          · subst ei
            exact .inr (.inr ⟨fun h => by omega, fun h => by omega, fun _ => ⟨c, by rw [hrd, if_neg es, if_pos rfl], hci, .inr hkc, by rw [← I.op, eO, hoc]⟩, fun h => by omega⟩)
          by_cases ee : j = c
          · subst ee
            exact .inr (.inr ⟨fun h => by omega, fun h => by omega, fun h => by omega, fun h => by omega⟩)
          rcases I.cl j (by omega) with h | ⟨t, h1, h2⟩ | h
          · rw [eLa] at h
            rcases List.mem_append.1 h with h | h
            · exact .inl h
            · simp at h; omega
          · rw [eT] at h1
            rcases List.mem_append.1 h1 with h1 | h1
            · exact .inr (.inl ⟨t, h1, h2⟩)
            · simp at h1; subst h1; exact absurd h2 es
          · exact .inr (.inr (h.move (by rw [hrd, if_neg es, if_neg ei, if_neg ee]))) }
end
end Go.Proofs.Ytfpcfaapoeeipaa.Stat
namespace Go.Proofs.Ytfpcfaapoeeipaa.Stat
open Go.RowKit Go.Proofs.YtfpcfaapoeeipaaW.PrintWords Go.Proofs.YtfpcfaapoeeipaaW.PrintLast Go.Proofs.YtfpcfaapoeeipaaW.PrintMore Go.Proofs.Ytfpcfaapoeeipaa.P Go.Proofs.Ytfpcfaapoeeipaa.Ops Go.Proofs.Ytfpcfaapoeeipaa.Lns
section
variable {a0 : Int} {l : List S75}
theorem list_eq_rd {xs ys : List Int} (h : xs.length = ys.length) (e : ∀ j : Nat, j < xs.length → rd xs j = rd ys j) : xs = ys := by
  apply List.ext_getElem h
  intro i h1 h2
  have := e i h1
  rw [rd_nat, rd_nat] at this
  simpa [List.getD, h1, h2] using this
theorem goal_all (hn : l.length ≤ 24) : ∀ (d i : Nat) (out O La : List Int) (T : List (List Int)) (s : PSt), l.length - i = d → i ≤ l.length → Inv a0 l i out O La T s → Goal a0 l i out O La T s := by
  intro d
  induction d with
  | zero =>
    intro i out O La T s hd hi I
    have : i = l.length := by omega
    subst this
    refine ⟨s.out, decide (s.opn.length = 0), fun k => by rw [List.drop_length]; rfl, fun ⟨j, h1, h2, _⟩ => by omega, fun _ => ⟨out, ?_, fun hok => ?_⟩⟩
    · refine Ev.step (f := fun _ => some (out, decide (s.opn.length = 0))) (fun k => ?_) (Ev.now _)
      simp only [spec_l08Pairs.l1]
      rw [I.so, if_neg (by rw [I.lo]; omega)]
      by_cases h0 : O.length = 0
      · rw [if_pos (by omega), decide_eq_true h0, decide_eq_true (by omega)]
      · rw [if_neg (by omega), decide_eq_false h0]
    · have h0 : O = [] := by
        have := of_decide_eq_true hok
        rw [I.so] at this
        exact List.eq_nil_of_length_eq_zero this
      obtain ⟨e1, e2, _⟩ := I.st.nil_of h0
      refine ⟨list_eq_rd (by rw [I.ls, I.lo]) (fun j hj => I.eq j (by rw [I.ls] at hj; exact hj)), I.lo, by rw [← I.op]; exact h0, fun j hj => ?_, I.hl⟩
      rcases I.cl j hj with h | ⟨t, h1, h2⟩ | h
      · rw [e1] at h; simp at h
      · rw [e2] at h1; simp at h1
      · exact h
  | succ d ih =>
    intro i out O La T s hd hi I
    have hlt : i < l.length := by omega
    by_cases hv : okAt a0 l i = true
    · have next : ∀ out' O' La' T' s', Inv a0 l (i + 1) out' O' La' T' s' → Goal a0 l (i + 1) out' O' La' T' s' := fun out' O' La' T' s' I' => ih (i + 1) out' O' La' T' s' (by omega) (by omega) I'
      rcases okAt_kind hv with h | h | h | h | h | h | h
      · exact step01 hn hlt I hv (.inl h) (fun s' I' => next _ _ _ _ _ I')
      · exact step01 hn hlt I hv (.inr h) (fun s' I' => next _ _ _ _ _ I')
      · exact step25 hn hlt I hv (.inl h) (fun s' I' => next _ _ _ _ _ I')
      · exact step3 hn hlt I hv h (fun _ _ s' I' => next _ _ _ _ _ I')
      · exact step4 hn hlt I hv h (fun _ _ _ _ s' I' => next _ _ _ _ _ I')
      · exact step25 hn hlt I hv (.inr h) (fun s' I' => next _ _ _ _ _ I')
      · exact step6 hn hlt I hv h (fun _ s' I' => next _ _ _ _ _ I')
    · have hv' : okAt a0 l i = false := by simpa using hv
      refine ⟨[], false, fun k => ?_, fun _ => rfl, fun hall => absurd (hall i (Nat.le_refl _) hlt) hv⟩
      rw [drop_cons_T l i hlt]
      simp only [impl_paired.go, step_bad hlt I.ls hv', Option.bind_some]
def idl (i : Nat) : List Int := (List.range i).map (fun j : Nat => (j : Int))
theorem idl_len (i : Nat) : (idl i).length = i := by simp [idl]
theorem idl_rd (i j : Nat) (h : j < i) : rd (idl i) j = j := by rw [rd_nat]; simp [idl, List.getD, h]
theorem idl_succ (i : Nat) : idl (i + 1) = idl i ++ [(i : Int)] := by simp [idl, List.range_succ]
theorem sp_l0 (hn : l.length ≤ 24) : ∀ (d i : Nat), l.length - i = d → i ≤ l.length →
    ((∀ j, i ≤ j → j < l.length → okAt a0 l j = true) → ∀ r, Ev (fun k => spec_l08Pairs.l1 k l (idl l.length) [] [] [] 0) r → Ev (fun k => spec_l08Pairs.l0 k a0 l (idl i) i) r) ∧
    ((∃ j, i ≤ j ∧ j < l.length ∧ okAt a0 l j = false) → ∃ r2, Ev (fun k => spec_l08Pairs.l0 k a0 l (idl i) i) (r2, false)) := by
  intro d
  induction d with
  | zero =>
    intro i hd hi
    have : i = l.length := by omega
    subst this
    refine ⟨fun _ r h => ?_, fun ⟨j, h1, h2, _⟩ => by omega⟩
    refine Ev.step (f := fun k => spec_l08Pairs.j1 k a0 l (idl l.length) l.length false) (fun k => ?_) (Ev.step (fun k => ?_) h)
    · simp only [spec_l08Pairs.l0]; rw [if_neg (by omega)]
    · simp only [spec_l08Pairs.j1]; simp
  | succ d ih =>
    intro i hd hi
    have hlt : i < l.length := by omega
    obtain ⟨ih1, ih2⟩ := ih (i + 1) (by omega) (by omega)
    have e0 : ∀ (f : Nat → Option (List Int × Bool)) (r : List Int × Bool), (∀ k, spec_l08Pairs.j1 k a0 l (idl i) i true = f k) → Ev f r → Ev (fun k => spec_l08Pairs.l0 k a0 l (idl i) i) r := by
      intro f r h1 h2
      refine Ev.step (fun k => ?_) h2
      simp only [spec_l08Pairs.l0]; rw [if_pos (by omega), decide_eq_true (by omega)]; exact h1 k
    have el : Ev (fun k => spec_l08Line.f k a0 (rd_T75 l i).f0 (rd_T75 l i).f1 (rd_T75 l i).f2 (rd_T75 l i).f3 (rd_T75 l i).f4) (okAt a0 l i) :=
      ⟨2, fun k hk => by obtain ⟨m, rfl⟩ : ∃ m, k = m + 2 := ⟨k - 2, by omega⟩; exact line_spec m _ _ _ _ _ _⟩
    have e1 : ∀ r : List Int × Bool, Ev (fun k => if okAt a0 l i = true then spec_l08Pairs.l0 k a0 l (idl (i + 1)) ((i + 1 : Nat) : Int) else some (idl i, false)) r → Ev (fun k => spec_l08Pairs.l0 k a0 l (idl i) i) r := by
      intro r h
      refine e0 (fun k => spec_l08Pairs.j1 k a0 l (idl i) i true) r (fun _ => rfl) ?_
      refine Ev.step (f := fun k => (spec_l08Line.f k a0 (rd_T75 l i).f0 (rd_T75 l i).f1 (rd_T75 l i).f2 (rd_T75 l i).f3 (rd_T75 l i).f4).bind fun t => if t = true then spec_l08Pairs.l0 k a0 l (idl (i + 1)) ((i + 1 : Nat) : Int) else some (idl i, false)) (fun k => ?_) (Ev.bind el h)
      simp only [spec_l08Pairs.j1, if_true]
      rw [if_pos (by omega), if_pos (by omega), if_pos (by rw [idl_len]; omega), w64n i (by omega), idl_succ]
    by_cases hv : okAt a0 l i = true
    · simp only [hv, if_true] at e1
      refine ⟨fun hall r h => e1 r (ih1 (fun j h1 h2 => hall j (by omega) h2) r h), fun ⟨j, h1, h2, h3⟩ => ?_⟩
      have hne : j ≠ i := fun e => by rw [e, hv] at h3; cases h3
      obtain ⟨r2, h⟩ := ih2 ⟨j, by omega, h2, h3⟩
      exact ⟨r2, e1 _ h⟩
    · simp only [hv, if_false] at e1
      exact ⟨fun hall => absurd (hall i (Nat.le_refl _) hlt) hv, fun _ => ⟨idl i, e1 _ (Ev.now _)⟩⟩
structure Paired (a0 : Int) (l : List S75) (r : List Int) : Prop where
  spec : Ev (fun k => spec_l08Pairs.f k a0 l) (r, true)
  len : r.length = l.length
  fin : opens l l.length = []
  cl : ∀ j, j < l.length → Cl l r j
  ok : ∀ j, j < l.length → okAt a0 l j = true
  l4 : ∀ j, j ≤ l.length → (opens l j).length ≤ 4
theorem pairs_eq (hn : l.length ≤ 24) : ∃ (r1 : List Int) (ok : Bool), (∀ k, impl_paired.f (k + 2) a0 l = some (r1, ok)) ∧ (ok = true → Paired a0 l r1) ∧ (ok = false → ∃ r2, Ev (fun k => spec_l08Pairs.f k a0 l) (r2, false)) := by
  have I : Inv a0 l 0 (idl l.length) [] [] [] ⟨List.replicate l.length 0, [], [], [], [1], []⟩ := {
    st := .nil, op := rfl, l4 := by simp, so := rfl, lo := idl_len _, ls := by simp
    eq := fun j h => by omega, id := fun j _ h => idl_rd _ _ h, ne := by simp, el := by simp, cl := fun j h => by omega, ok := fun j h => by omega, hl := fun j h => (by rw [show j = 0 by omega]; simp [opens]) }
  obtain ⟨r1, ok, g1, g2, g3⟩ := goal_all (a0 := a0) hn l.length 0 _ _ _ _ _ (by omega) (by omega) I
  obtain ⟨s1, s2⟩ := sp_l0 (a0 := a0) hn l.length 0 (by omega) (by omega)
  have hf : ∀ k, impl_paired.f (k + 2) a0 l = some (r1, ok) := fun k => by
    unfold impl_paired.f
    rw [if_pos (by omega)]
    exact g1 k
  by_cases hall : ∀ j, 0 ≤ j → j < l.length → okAt a0 l j = true
  · obtain ⟨r2, e1, e2⟩ := g3 hall
    have e3 := s1 hall _ e1
    refine ⟨r1, ok, hf, fun hok => ?_, fun hok => ?_⟩
    · obtain ⟨h1, h2, h3, h4, h5⟩ := e2 hok
      subst h1
      rw [hok] at e3
      exact ⟨e3, h2, h3, h4, fun j hj => hall j (by omega) hj, h5⟩
    · rw [hok] at e3
      exact ⟨r2, e3⟩
  · have : ∃ j, 0 ≤ j ∧ j < l.length ∧ okAt a0 l j = false := by
      apply Classical.byContradiction
      intro hc
      apply hall
      intro j h1 h2
      cases h : okAt a0 l j
      · exact absurd ⟨j, h1, h2, h⟩ hc
      · rfl
    have hok := g2 this
    obtain ⟨r2, e⟩ := s2 this
    refine ⟨r1, ok, hf, fun h => ?_, fun _ => ⟨r2, e⟩⟩
    rw [hok] at h; cases h
theorem pairs_long (hn : 24 < l.length) : Ev (fun k => spec_l08Pairs.f k a0 l) ([], false) := by
  show Ev (fun k => spec_l08Pairs.l0 k a0 l [] 0) _
  refine Ev.step (f := fun k => spec_l08Pairs.j1 k a0 l [] 0 false) (fun k => ?_) (Ev.step (f := fun k => spec_l08Pairs.l1 k l [] [] [] [] 0) (fun k => ?_) (Ev.step (f := fun _ => some ([], false)) (fun k => ?_) (Ev.now _)))
  · simp only [spec_l08Pairs.l0]; rw [if_pos (by omega), decide_eq_false (by omega)]
  · simp only [spec_l08Pairs.j1]; simp
  · simp only [spec_l08Pairs.l1]; simp; omega
end
end Go.Proofs.Ytfpcfaapoeeipaa.Stat
set_option linter.unusedSimpArgs false
set_option linter.unusedVariables false
namespace Go.Proofs.Ytfpcfaapoeeipaa.Aln
open Go.RowKit Go.Proofs.YtfpcfaapoeeipaaW.PrintWords Go.Proofs.YtfpcfaapoeeipaaW.PrintLast Go.Proofs.YtfpcfaapoeeipaaW.PrintMore Go.Proofs.Ytfpcfaapoeeipaa.P Go.Proofs.Ytfpcfaapoeeipaa.Ops Go.Proofs.Ytfpcfaapoeeipaa.Lns Go.Proofs.Ytfpcfaapoeeipaa.Stat
def TT : Nat → Nat
  | 0 => 25
  | d + 1 => 225 * TT d
theorem TT_pos : ∀ d, 25 ≤ TT d
  | 0 => by simp [TT]
  | d + 1 => by have := TT_pos d; simp only [TT]; omega
def wt (n : Nat) : Nat → List Int → List Int → Nat → Nat
  | 0, _, _, i => n - i
  | d + 1, [], _, i => (n - i) * (9 * TT d)
  | d + 1, b :: L, r :: X, i => (n - (b.toNat + 1)) * (9 * TT d) + r.toNat * TT d + wt n d L X i
  | _ + 1, _ :: _, [], _ => 0
theorem wt_lt {n : Nat} (hn : n ≤ 24) : ∀ (d : Nat) (L X : List Int) (i : Nat), (∀ r, r ∈ X → r.toNat ≤ 8) → wt n d L X i < TT d
  | 0, _, _, i, _ => by simp only [wt, TT]; omega
  | d + 1, [], _, i, _ => by
    have h1 : (n - i) * (9 * TT d) ≤ 24 * (9 * TT d) := Nat.mul_le_mul_right _ (by omega)
    have := TT_pos d
    simp only [wt, TT]; omega
  | d + 1, b :: L, r :: X, i, h => by
    have ih := wt_lt hn d L X i (fun r hr => h r (List.mem_cons_of_mem _ hr))
    have h1 : (n - (b.toNat + 1)) * (9 * TT d) ≤ 23 * (9 * TT d) := Nat.mul_le_mul_right _ (by omega)
    have h2 : r.toNat * TT d ≤ 8 * TT d := Nat.mul_le_mul_right _ (h r (by simp))
    simp only [wt, TT]; omega
  | d + 1, b :: L, [], i, _ => by have := TT_pos d; simp only [wt, TT]; omega
theorem wt_pre {n : Nat} (L1 X1 L2 X2 : List Int) (i1 i2 : Nat) : ∀ (P Q : List Int) (d : Nat), P.length = Q.length → wt n d L1 X1 i1 < wt n d L2 X2 i2 → wt n (d + P.length) (P ++ L1) (Q ++ X1) i1 < wt n (d + P.length) (P ++ L2) (Q ++ X2) i2
  | [], [], d, _, h => h
  | [], _ :: _, d, e, _ => by simp at e
  | _ :: _, [], d, e, _ => by simp at e
  | b :: P, r :: Q, d, e, h => by
    have ih := wt_pre L1 X1 L2 X2 i1 i2 P Q d (by simpa using e) h
    simp only [List.length_cons, List.cons_append, ← Nat.add_assoc, wt]
    omega
theorem wt_fwd {n d i1 i2 : Nat} (h : i1 < i2) (hi : i1 < n) : wt n d [] [] i2 < wt n d [] [] i1 := by
  cases d with
  | zero => simp only [wt]; omega
  | succ d =>
    simp only [wt]
    have := TT_pos d
    exact Nat.mul_lt_mul_of_pos_right (by omega) (by omega)
theorem wt_next {n i1 i2 : Nat} {L X : List Int} (hl : L.length ≤ 4) (hx : X.length = L.length) (h : i1 < i2) (hi : i1 < n) : wt n 4 L X i2 < wt n 4 L X i1 := by
  have := wt_pre (n := n) [] [] [] [] i2 i1 L X (4 - L.length) hx.symm (wt_fwd h hi)
  rw [show 4 - L.length + L.length = 4 by omega] at this
  simpa using this
theorem wt_push {n i : Nat} (hn : n ≤ 24) {L X : List Int} {r : Int} (hl : L.length ≤ 3) (hx : X.length = L.length) (hi : i < n) (hr : r.toNat ≤ 8) : wt n 4 (L ++ [(i : Int)]) (X ++ [r]) (i + 1) < wt n 4 L X i := by
  have h1 : wt n (4 - L.length) [(i : Int)] [r] (i + 1) < wt n (4 - L.length) [] [] i := by
    obtain ⟨d, hd⟩ : ∃ d, 4 - L.length = d + 1 := ⟨3 - L.length, by omega⟩
    rw [hd]
    have hw := wt_lt hn d [] [] (i + 1) (by simp)
    have h2 : r.toNat * TT d ≤ 8 * TT d := Nat.mul_le_mul_right _ hr
    have h3 : (n - i) * (9 * TT d) = (n - (i + 1)) * (9 * TT d) + 9 * TT d := by rw [show n - i = (n - (i + 1)) + 1 by omega, Nat.add_mul]; omega
    simp only [wt]
    rw [h3, show ((i : Int)).toNat = i by omega]
    omega
  have := wt_pre (n := n) [(i : Int)] [r] [] [] (i + 1) i L X (4 - L.length) hx.symm h1
  rw [show 4 - L.length + L.length = 4 by omega] at this
  simpa using this
theorem wt_back {n i b : Nat} (hn : n ≤ 24) {L X : List Int} {r : Int} (hl : L.length ≤ 3) (hx : X.length = L.length) (hr : 1 < r) : wt n 4 (L ++ [(b : Int)]) (X ++ [r - 1]) (b + 1) < wt n 4 (L ++ [(b : Int)]) (X ++ [r]) i := by
  have h1 : wt n (4 - L.length) [(b : Int)] [r - 1] (b + 1) < wt n (4 - L.length) [(b : Int)] [r] i := by
    obtain ⟨d, hd⟩ : ∃ d, 4 - L.length = d + 1 := ⟨3 - L.length, by omega⟩
    rw [hd]
    have hw := wt_lt hn d [] [] (b + 1) (by simp)
    have h2 : r.toNat * TT d = (r - 1).toNat * TT d + TT d := by rw [show r.toNat = (r - 1).toNat + 1 by omega, Nat.add_mul]; omega
    simp only [wt]
    rw [h2]
    omega
  have := wt_pre (n := n) [(b : Int)] [r - 1] [(b : Int)] [r] (b + 1) i L X (4 - L.length) hx.symm h1
  rw [show 4 - L.length + L.length = 4 by omega] at this
  exact this
theorem wt_pop {n i j b : Nat} {L X : List Int} {r : Int} (hl : L.length ≤ 3) (hx : X.length = L.length) (hb : b < n) (h : b + 1 < j) : wt n 4 L X j < wt n 4 (L ++ [(b : Int)]) (X ++ [r]) i ∨ n ≤ b + 1 := by
  by_cases hnb : n ≤ b + 1
  · exact .inr hnb
  left
  have h1 : wt n (4 - L.length) [] [] j < wt n (4 - L.length) [(b : Int)] [r] i := by
    obtain ⟨d, hd⟩ : ∃ d, 4 - L.length = d + 1 := ⟨3 - L.length, by omega⟩
    rw [hd]
    have := TT_pos d
    have h3 : (n - j) * (9 * TT d) < (n - (b + 1)) * (9 * TT d) := Nat.mul_lt_mul_of_pos_right (by omega) (by omega)
    simp only [wt, show ((b : Int)).toNat = b by omega]
    omega
  have := wt_pre (n := n) [] [] [(b : Int)] [r] j i L X (4 - L.length) hx.symm h1
  rw [show 4 - L.length + L.length = 4 by omega] at this
  simpa using this
def lps (l : List S75) (O : List Int) : List Int := O.filter fun b => decide (kd l b = 5)
theorem lps_snoc (l : List S75) (O : List Int) (b : Int) : lps l (O ++ [b]) = if kd l b = 5 then lps l O ++ [b] else lps l O := by
  unfold lps
  rw [List.filter_append]
  by_cases h : kd l b = 5 <;> simp [h]
theorem lps_none (l : List S75) (C : List Int) (h : ∀ c, c ∈ C → kd l c ≠ 5) : lps l C = [] := by
  unfold lps
  rw [List.filter_eq_nil_iff]
  intro c hc
  simp [h c hc]
theorem lps_len (l : List S75) (O : List Int) : (lps l O).length ≤ O.length := List.length_filter_le _ _
inductive Rs (l : List S75) (A : List Int) : List Int → List Int → Prop
  | nil : Rs l A [] []
  | snoc {L X : List Int} (b : Nat) (r : Int) : Rs l A L X → b < A.length → 1 ≤ r → r ≤ (rd_T75 l b).f4 → (rd_T75 l b).f4 ≤ 8 → rd A b = (rd_T75 l b).f4 - r + 1 → Rs l A (L ++ [(b : Int)]) (X ++ [r])
section
variable {l : List S75} {A L X : List Int}
theorem Rs.len (h : Rs l A L X) : X.length = L.length := by
  induction h with
  | nil => rfl
  | snoc b r _ _ _ _ _ _ ih => simp [ih]
theorem Rs.move (h : Rs l A L X) {A' : List Int} (hl : A'.length = A.length) (e : ∀ b : Nat, (b : Int) ∈ L → rd A' b = rd A b) : Rs l A' L X := by
  induction h with
  | nil => exact .nil
  | snoc b r h hb h1 h2 h3 h4 ih =>
    exact .snoc b r (ih (fun c hc => e c (List.mem_append_left _ hc))) (by omega) h1 h2 h3 (by rw [e b (by simp)]; exact h4)
theorem Rs.top (h : Rs l A L X) {L' : List Int} {b : Nat} (e : L = L' ++ [(b : Int)]) : ∃ (X' : List Int) (r : Int), X = X' ++ [r] ∧ Rs l A L' X' ∧ b < A.length ∧ 1 ≤ r ∧ r ≤ (rd_T75 l b).f4 ∧ (rd_T75 l b).f4 ≤ 8 ∧ rd A b = (rd_T75 l b).f4 - r + 1 := by
  cases h with
  | nil => simp at e
  | snoc c r h hb h1 h2 h3 h4 =>
    obtain ⟨rfl, e3⟩ := List.append_inj' e rfl
    injection e3 with e3
    have : c = b := by omega
    subst this
    exact ⟨_, r, rfl, h, hb, h1, h2, h3, h4⟩
end
end Go.Proofs.Ytfpcfaapoeeipaa.Aln
namespace Go.Proofs.Ytfpcfaapoeeipaa.Aln
open Go.RowKit Go.Proofs.YtfpcfaapoeeipaaW.PrintWords Go.Proofs.YtfpcfaapoeeipaaW.PrintLast Go.Proofs.YtfpcfaapoeeipaaW.PrintMore Go.Proofs.Ytfpcfaapoeeipaa.P Go.Proofs.Ytfpcfaapoeeipaa.Ops Go.Proofs.Ytfpcfaapoeeipaa.Lns Go.Proofs.Ytfpcfaapoeeipaa.Stat
structure Flds (a0 : Int) (l : List S75) (i : Nat) : Prop where
  k0 : kd l i = 0 → (0 ≤ (rd_T75 l i).f1 ∧ (rd_T75 l i).f1 ≤ 7) ∧ (0 ≤ (rd_T75 l i).f2 ∧ (rd_T75 l i).f2 ≤ 17) ∧ (0 ≤ (rd_T75 l i).f3 ∧ (rd_T75 l i).f3 ≤ 7) ∧ (0 ≤ (rd_T75 l i).f4 ∧ (rd_T75 l i).f4 ≤ 7)
  k1 : kd l i = 1 → (0 ≤ (rd_T75 l i).f1 ∧ (rd_T75 l i).f1 ≤ 7) ∧ isW a0 (rd_T75 l i).f4 = true
  k26 : kd l i = 2 ∨ kd l i = 6 → (0 ≤ (rd_T75 l i).f3 ∧ (rd_T75 l i).f3 ≤ 7) ∧ (0 ≤ (rd_T75 l i).f4 ∧ (rd_T75 l i).f4 ≤ 7)
  k5 : kd l i = 5 → 1 ≤ (rd_T75 l i).f4 ∧ (rd_T75 l i).f4 ≤ 8
theorem flds {a0 : Int} {l : List S75} {i : Nat} (h : okAt a0 l i = true) : Flds a0 l i := by
  have h5 := fun hk => okAt_loop h hk
  unfold okAt lineOk at h
  refine ⟨fun hk => ?_, fun hk => ?_, fun hk => ?_, h5⟩
  · unfold kd at hk; rw [if_pos hk] at h; simp [isV, isO] at h; omega
  · unfold kd at hk; rw [if_neg (by omega), if_pos hk] at h; simp [isV] at h; exact ⟨by omega, h.2.2.2⟩
  · unfold kd at hk; rw [if_neg (by omega), if_neg (by omega), if_pos hk] at h; simp [isV, isC] at h; omega
def Sim (a0 : Int) (l : List S75) (P : List Int) (i : Nat) (vars path X A : List Int) : Prop :=
  ∃ v p : List Int, Ev (fun k => impl_alone.l0 k a0 l vars P path X i) (v, p) ∧ Ev (fun k => spec_l08Alone.l0 k a0 l P vars path A i) (v, p) ∧ v.length = 8 ∧ p.length ≤ 64072265625
structure D (a0 : Int) (l : List S75) (i : Nat) (vars path X A : List Int) : Prop where
  rs : Rs l A (lps l (opens l i)) X
  la : A.length = l.length
  lv : vars.length = 8
  wv : ∀ j : Nat, j < 8 → Wd a0 (rd vars j)
  pl : path.length + wt l.length 4 (lps l (opens l i)) X i ≤ 64072265625
section
variable {a0 : Int} {l : List S75} {P : List Int} {i : Nat} {vars path X A : List Int}
theorem D.rdv (d : D a0 l i vars path X A) {j : Int} (h : 0 ≤ j ∧ j ≤ 7) : Wd a0 (rd vars j) := by
  have := d.wv j.toNat (by omega)
  rwa [show ((j.toNat : Nat) : Int) = j by omega] at this
theorem D.set (d : D a0 l i vars path X A) {j v : Int} (h : 0 ≤ j ∧ j ≤ 7) (hv : Wd a0 v) : (vars.set j.toNat v).length = 8 ∧ ∀ q : Nat, q < 8 → Wd a0 (rd (vars.set j.toNat v) q) := by
  refine ⟨by simp [d.lv], fun q hq => ?_⟩
  rw [rd_set _ _ _ _ (by rw [d.lv]; omega)]
  split
  · exact hv
  · exact d.wv q hq
theorem im1 {r : List Int × List Int} (hi : i < l.length)
    (h : Ev (fun k => impl_alone.j1 k a0 l vars P path X i (kd l i) (decide (kd l i = 0 ∨ kd l i = 1)) (rd_T75 l i).f0 (rd_T75 l i).f1 (rd_T75 l i).f2 (rd_T75 l i).f3 (rd_T75 l i).f4) r) : Ev (fun k => impl_alone.l0 k a0 l vars P path X i) r := by
  refine Ev.step (fun k => ?_) h
  simp only [impl_alone.l0]
  rw [if_pos (by omega), if_pos (by omega)]
  by_cases h0 : kd l i = 0
  · have h0' := h0; unfold kd at h0'; rw [if_pos h0', decide_eq_true (.inl h0), h0']; simp [kd, h0']
  · have h0' := h0; unfold kd at h0'; rw [if_neg h0']
    rw [show ((rd_T75 l i).f0 == 1) = decide (kd l i = 0 ∨ kd l i = 1) by
      by_cases h1 : kd l i = 1
      · have h1' := h1; unfold kd at h1'; rw [decide_eq_true (.inr h1), h1']; rfl
      · have h1' := h1; unfold kd at h1'; rw [decide_eq_false (by omega)]; exact beq_eq_false_iff_ne.mpr h1']
    rfl
theorem D.next (d : D a0 l i vars path X A) (hP : Paired a0 l P) (hi : i < l.length) {i2 : Nat} {vars' path' : List Int} (h1 : i < i2) (h2 : i2 ≤ l.length) (he : lps l (opens l i2) = lps l (opens l i)) (hlv : vars'.length = 8) (hwv : ∀ j : Nat, j < 8 → Wd a0 (rd vars' j)) (hp : path'.length ≤ path.length + 1) : D a0 l i2 vars' path' X A := by
  have hlen := d.rs.len
  have h4 := hP.l4 i (by omega)
  have := lps_len l (opens l i)
  have hw := wt_next (n := l.length) (i1 := i) (i2 := i2) (L := lps l (opens l i)) (X := X) (by omega) hlen h1 hi
  have := d.pl
  exact ⟨by rw [he]; exact d.rs, d.la, hlv, hwv, by rw [he]; omega⟩
theorem opens_same (h2 : kd l i ≠ 2) (h5 : kd l i ≠ 5) (h4 : kd l i ≠ 4) : opens l (i + 1) = opens l i := by
  simp only [opens, nxt]; rw [if_neg (by omega), if_neg h4]
theorem opens_push (h : kd l i = 2 ∨ kd l i = 5) : opens l (i + 1) = opens l i ++ [(i : Int)] := by
  simp only [opens, nxt]; rw [if_pos h]
theorem opens_pop (h : kd l i = 4) : opens l (i + 1) = (opens l i).dropLast := by
  simp only [opens, nxt]; rw [if_neg (by omega), if_pos h]
theorem sim0 (hb : IsB a0) (hn : l.length ≤ 24) (hP : Paired a0 l P) (hi : i < l.length) (d : D a0 l i vars path X A) (hk : kd l i = 0)
    (ih : ∀ vars' path', D a0 l (i + 1) vars' path' X A → Sim a0 l P (i + 1) vars' path' X A) : Sim a0 l P i vars path X A := by
  have F := (flds (hP.ok i hi)).k0 hk
  have hk' := hk
  unfold kd at hk'
  obtain ⟨r, e1, e2, hw⟩ := do_eq hb (d.rdv F.2.2.1) (d.rdv F.2.2.2) (rd_T75 l i).f2 F.2.1.1 F.2.1.2
  have hs := d.set F.1 hw
  have hpl := d.pl
  obtain ⟨v, p, s1, s2, s3⟩ := ih (vars.set (rd_T75 l i).f1.toNat r) (path ++ [(i : Int)]) (d.next hP hi (by omega) (by omega) (by rw [opens_same (by omega) (by omega) (by omega)]) hs.1 hs.2 (by simp))
  have hlv := d.lv
  refine ⟨v, p, im1 hi (Ev.step (fun k => ?_) s1), Ev.step (fun k => ?_) s2, s3⟩
  · simp only [impl_alone.j1]
    rw [decide_eq_true (.inl hk), if_pos rfl]
    unfold impl_set.f
    rw [if_neg (by omega), if_pos F.2.2.1.1, if_pos (by omega), if_pos F.2.2.2.1, if_pos (by omega), e1]
    simp only [Option.bind_some]
    rw [if_pos F.1.1, if_pos (by omega)]
    simp only [Option.bind_some]
    rw [if_pos (by omega), w64n i (by omega)]
  · simp only [spec_l08Alone.l0]
    rw [if_pos (by omega), if_pos (by omega), if_pos hk', if_pos F.2.2.1.1, if_pos (by omega), if_pos F.2.2.2.1, if_pos (by omega), e2]
    simp only [Option.bind_some]
    rw [if_pos F.1.1, if_pos (by omega), if_pos (by omega), w64n i (by omega)]
theorem sim1 (hb : IsB a0) (hn : l.length ≤ 24) (hP : Paired a0 l P) (hi : i < l.length) (d : D a0 l i vars path X A) (hk : kd l i = 1)
    (ih : ∀ vars' path', D a0 l (i + 1) vars' path' X A → Sim a0 l P (i + 1) vars' path' X A) : Sim a0 l P i vars path X A := by
  have F := (flds (hP.ok i hi)).k1 hk
  have hk' := hk
  unfold kd at hk'
  have hs := d.set F.1 ((isW_iff hb).1 F.2)
  have hpl := d.pl
  obtain ⟨v, p, s1, s2, s3⟩ := ih (vars.set (rd_T75 l i).f1.toNat (rd_T75 l i).f4) (path ++ [(i : Int)]) (d.next hP hi (by omega) (by omega) (by rw [opens_same (by omega) (by omega) (by omega)]) hs.1 hs.2 (by simp))
  have hlv := d.lv
  refine ⟨v, p, im1 hi (Ev.step (fun k => ?_) s1), Ev.step (fun k => ?_) s2, s3⟩
  · simp only [impl_alone.j1]
    rw [decide_eq_true (.inr hk), if_pos rfl]
    unfold impl_set.f
    rw [if_pos hk', if_pos F.1.1, if_pos (by omega)]
    simp only [Option.bind_some]
    rw [if_pos (by omega), w64n i (by omega)]
  · simp only [spec_l08Alone.l0]
    rw [if_pos (by omega), if_pos (by omega), if_neg (by omega), if_pos hk', if_pos F.1.1, if_pos (by omega), if_pos (by omega), w64n i (by omega)]
theorem sim2 (hb : IsB a0) (hn : l.length ≤ 24) (hP : Paired a0 l P) (hi : i < l.length) (d : D a0 l i vars path X A) (hk : kd l i = 2)
    (ih : ∀ i2, i < i2 → i2 ≤ l.length → lps l (opens l i2) = lps l (opens l i) → D a0 l i2 vars path X A → Sim a0 l P i2 vars path X A) : Sim a0 l P i vars path X A := by
  have F := (flds (hP.ok i hi)).k26 (.inl hk)
  have hk' := hk
  unfold kd at hk'
  have hlv := d.lv
  have hPl := hP.len
  obtain ⟨r, e1, e2⟩ := test_eq hb (d.rdv F.1) (d.rdv F.2) (rd_T75 l i).f2
  obtain ⟨t, ht, h1, h2, h3, h4⟩ := (hP.cl i hi).k2 hk
  have same : ∀ i2, i < i2 → i2 ≤ l.length → lps l (opens l i2) = lps l (opens l i) → Sim a0 l P i2 vars path X A := fun i2 h1 h2 h3 => ih i2 h1 h2 h3 (d.next hP hi h1 h2 h3 d.lv d.wv (by omega))
  cases r with
  | true =>
    obtain ⟨v, p, s1, s2, s3⟩ := same (i + 1) (by omega) (by omega) (by rw [opens_push (.inl hk), lps_snoc, if_neg (by omega)])
    refine ⟨v, p, im1 hi (Ev.step (fun k => ?_) s1), Ev.step (fun k => ?_) s2, s3⟩
    · simp only [impl_alone.j1]
      rw [decide_eq_false (by omega), if_neg (by simp), if_pos hk, if_pos F.1.1, if_pos (by omega), if_pos F.2.1, if_pos (by omega), e1]
      simp only [Option.bind_some, if_true]
      rw [w64n i (by omega)]
    · simp only [spec_l08Alone.l0]
      rw [if_pos (by omega), if_pos (by omega), if_neg (by omega), if_neg (by omega), if_pos hk', if_pos F.1.1, if_pos (by omega), if_pos F.2.1, if_pos (by omega), e2]
      simp only [Option.bind_some, if_true]
      rw [w64n i (by omega)]
  | false =>
    obtain ⟨v, p, s1, s2, s3⟩ := same (t + 1) (by omega) (by omega) (by
      rcases h4 with h4 | h4
      · rw [opens_same (by omega) (by omega) (by omega), h3, lps_snoc, if_neg (by omega)]
      · rw [opens_pop h4, h3, List.dropLast_concat])
    refine ⟨v, p, im1 hi (Ev.step (fun k => ?_) s1), Ev.step (fun k => ?_) s2, s3⟩
    · simp only [impl_alone.j1]
      rw [decide_eq_false (by omega), if_neg (by simp), if_pos hk, if_pos F.1.1, if_pos (by omega), if_pos F.2.1, if_pos (by omega), e1]
      simp only [Option.bind_some]
      rw [if_neg (by simp), if_pos (by omega), if_pos (by omega), ht, w64n t (by omega)]
    · simp only [spec_l08Alone.l0]
      rw [if_pos (by omega), if_pos (by omega), if_neg (by omega), if_neg (by omega), if_pos hk', if_pos F.1.1, if_pos (by omega), if_pos F.2.1, if_pos (by omega), e2]
      simp only [Option.bind_some]
      rw [if_neg (by simp), if_pos (by omega), ht, w64n t (by omega)]
theorem sim3 (hn : l.length ≤ 24) (hP : Paired a0 l P) (hi : i < l.length) (d : D a0 l i vars path X A) (hk : kd l i = 3)
    (ih : ∀ i2, i < i2 → i2 ≤ l.length → lps l (opens l i2) = lps l (opens l i) → D a0 l i2 vars path X A → Sim a0 l P i2 vars path X A) : Sim a0 l P i vars path X A := by
  have hk' := hk
  unfold kd at hk'
  have hPl := hP.len
  obtain ⟨b, t, B, h0, hb, ht, h1, h2, h4, h5⟩ := (hP.cl i hi).k3 hk
  have he : lps l (opens l (t + 1)) = lps l (opens l i) := by rw [opens_pop h4, h5, h0, List.dropLast_concat, lps_snoc, if_neg (by omega)]
  obtain ⟨v, p, s1, s2, s3⟩ := ih (t + 1) (by omega) (by omega) he (d.next hP hi (by omega) (by omega) he d.lv d.wv (by omega))
  refine ⟨v, p, im1 hi (Ev.step (fun k => ?_) s1), Ev.step (fun k => ?_) s2, s3⟩
  · simp only [impl_alone.j1]
    rw [decide_eq_false (by omega), if_neg (by simp), if_neg (by omega), if_pos hk, if_pos (by omega), if_pos (by omega), ht, w64n t (by omega)]
  · simp only [spec_l08Alone.l0]
    rw [if_pos (by omega), if_pos (by omega), if_neg (by omega), if_neg (by omega), if_neg (by omega), if_pos hk', if_pos (by omega), ht, w64n t (by omega)]
end
end Go.Proofs.Ytfpcfaapoeeipaa.Aln
namespace Go.Proofs.Ytfpcfaapoeeipaa.Aln
open Go.RowKit Go.Proofs.YtfpcfaapoeeipaaW.PrintWords Go.Proofs.YtfpcfaapoeeipaaW.PrintLast Go.Proofs.YtfpcfaapoeeipaaW.PrintMore Go.Proofs.Ytfpcfaapoeeipaa.P Go.Proofs.Ytfpcfaapoeeipaa.Ops Go.Proofs.Ytfpcfaapoeeipaa.Lns Go.Proofs.Ytfpcfaapoeeipaa.Stat
section
variable {a0 : Int} {l : List S75} {P : List Int} {i : Nat} {vars path X A : List Int}
theorem lps_lt {O : List Int} {j : Nat} (h : O = opens l j) : ∀ c : Nat, (c : Int) ∈ lps l O → c < j := fun c hc => by
  subst h
  obtain ⟨b, e1, e2⟩ := opens_lt l j _ (List.mem_filter.1 hc).1
  omega
theorem sim5 (hn : l.length ≤ 24) (hP : Paired a0 l P) (hi : i < l.length) (d : D a0 l i vars path X A) (hk : kd l i = 5)
    (ih : ∀ X' A', D a0 l (i + 1) vars path X' A' → wt l.length 4 (lps l (opens l (i + 1))) X' (i + 1) < wt l.length 4 (lps l (opens l i)) X i → Sim a0 l P (i + 1) vars path X' A') : Sim a0 l P i vars path X A := by
  have F := (flds (hP.ok i hi)).k5 hk
  have hk' := hk
  unfold kd at hk'
  have hX := d.rs.len
  have hlps : lps l (opens l (i + 1)) = lps l (opens l i) ++ [(i : Int)] := by rw [opens_push (.inr hk), lps_snoc, if_pos hk]
  have h3 : (lps l (opens l i)).length ≤ 3 := by
    have h1 := hP.l4 (i + 1) (by omega)
    have h2 := lps_len l (opens l (i + 1))
    rw [hlps] at h2; simp at h2; omega
  have hla := d.la
  have hpl := d.pl
  have hw := wt_push (n := l.length) (i := i) hn (L := lps l (opens l i)) (X := X) (r := (rd_T75 l i).f4) h3 hX hi (by omega)
  have hD : D a0 l (i + 1) vars path (X ++ [(rd_T75 l i).f4]) (A.set i 1) := by
    refine ⟨?_, by simp [d.la], d.lv, d.wv, ?_⟩
    · rw [hlps]
      refine .snoc i _ (d.rs.move (by simp) (fun b hb => ?_)) (by simp; omega) F.1 (by omega) F.2 ?_
      · have := lps_lt rfl b hb
        rw [rd_set _ _ _ _ (by omega), if_neg (by omega)]
      · rw [rd_set _ _ _ _ (by omega), if_pos rfl]; omega
    · rw [hlps]; omega
  obtain ⟨v, p, s1, s2, s3⟩ := ih _ _ hD (by rw [hlps]; exact hw)
  refine ⟨v, p, im1 hi (Ev.step (fun k => ?_) s1), Ev.step (fun k => ?_) s2, s3⟩
  · simp only [impl_alone.j1]
    rw [decide_eq_false (by omega), if_neg (by simp), if_neg (by omega), if_neg (by omega), if_pos hk, if_pos (by omega), w64n i (by omega)]
  · simp only [spec_l08Alone.l0]
    rw [if_pos (by omega), if_pos (by omega), if_neg (by omega), if_neg (by omega), if_neg (by omega), if_neg (by omega), if_pos hk', if_pos (by omega), w64n i (by omega)]
    simp
theorem take_snoc (X : List Int) (r : Int) : (X ++ [r]).take X.length = X := by simp
theorem sim4 (hn : l.length ≤ 24) (hP : Paired a0 l P) (hi : i < l.length) (d : D a0 l i vars path X A) (hk : kd l i = 4)
    (ih : ∀ i2 X' A', i2 ≤ l.length → D a0 l i2 vars path X' A' → wt l.length 4 (lps l (opens l i2)) X' i2 < wt l.length 4 (lps l (opens l i)) X i → Sim a0 l P i2 vars path X' A') : Sim a0 l P i vars path X A := by
  have hk' := hk
  unfold kd at hk'
  have hPl := hP.len
  have hX := d.rs.len
  obtain ⟨b, h0, h1, h2, h3⟩ := (hP.cl i hi).k4 hk
  have hop : opens l (i + 1) = opens l b := by rw [opens_pop hk, h3, List.dropLast_concat]
  by_cases hb : kd l b = 5
  · have hb' := hb
    unfold kd at hb'
    have hlps : lps l (opens l i) = lps l (opens l b) ++ [(b : Int)] := by rw [h3, lps_snoc, if_pos hb]
    have hl3 : (lps l (opens l b)).length ≤ 3 := by
      have g1 := hP.l4 i (by omega)
      have g2 := lps_len l (opens l i)
      rw [hlps] at g2; simp at g2; omega
    obtain ⟨X', r, rfl, hrs, hbA, r1, r2, r8, hrd⟩ := d.rs.top hlps
    have hX' := hrs.len
    have hla := d.la
    have hpl := d.pl
    have e1 : wrap64 (((X' ++ [r]).length : Int) - 1) = (X'.length : Int) := by rw [w64 (by simp; omega)]; simp
    have e2 : rd (X' ++ [r]) (X'.length : Int) = r := rd_append_last _ _
    have e3 : wrap64 (r - 1) = r - 1 := w64 (by omega)
    have e4 : (X' ++ [r]).set ((X'.length : Int)).toNat (r - 1) = X' ++ [r - 1] := by rw [show ((X'.length : Int)).toNat = X'.length by omega]; exact set_append_last _ _ _ _ rfl
    have e5 : rd (X' ++ [r - 1]) (X'.length : Int) = r - 1 := rd_append_last _ _
    by_cases hr : 1 < r
    · have hw := wt_back (n := l.length) (i := i) (b := b) hn (L := lps l (opens l b)) (X := X') (r := r) hl3 hX' hr
      have hopb : opens l (b + 1) = opens l i := by rw [opens_push (.inr hb), h3]
      have hD : D a0 l (b + 1) vars path (X' ++ [r - 1]) (A.set b (rd A b + 1)) := by
        refine ⟨?_, by simp [d.la], d.lv, d.wv, ?_⟩
        · rw [hopb, hlps]
          refine .snoc b _ (hrs.move (by simp) (fun c hc => ?_)) (by simp; omega) (by omega) (by omega) r8 ?_
          · have := lps_lt rfl c hc
            rw [rd_set _ _ _ _ (by omega), if_neg (by omega)]
          · rw [rd_set _ _ _ _ (by omega), if_pos rfl]; omega
        · rw [hopb, hlps]; rw [hlps] at hpl; omega
      obtain ⟨v, p, s1, s2, s3⟩ := ih (b + 1) _ _ (by omega) hD (by rw [hopb, hlps]; exact hw)
      refine ⟨v, p, im1 hi (Ev.step (fun k => ?_) s1), Ev.step (fun k => ?_) s2, s3⟩
      · simp only [impl_alone.j1]
        rw [decide_eq_false (by omega), if_neg (by simp), if_neg (by omega), if_neg (by omega), if_neg (by omega), if_neg (by omega), if_pos hk, if_pos (by omega), if_pos (by omega), h0, if_pos (by omega), if_pos (by omega), if_pos hb', e1, if_pos (by omega), if_pos (by simp; omega), e2, e3, e4]
        simp only [Option.bind_some]
        rw [e5, if_pos (by omega), w64n b (by omega)]
      · simp only [spec_l08Alone.l0]
        rw [if_pos (by omega), if_pos (by omega), if_neg (by omega), if_neg (by omega), if_neg (by omega), if_neg (by omega), if_neg (by omega), if_pos hk', if_pos (by omega), h0, if_pos (by omega), if_pos (by omega), if_pos hb', if_pos (by omega), if_pos (by omega), w64n b (by omega), w64 (x := rd A (b : Int) + 1) (by omega)]
        simp
    · have hw := (wt_pop (n := l.length) (i := i) (j := i + 1) (b := b) (L := lps l (opens l b)) (X := X') (r := r) hl3 hX' (by omega) (by omega)).resolve_right (by omega)
      have hD : D a0 l (i + 1) vars path X' A := by
        refine ⟨by rw [hop]; exact hrs, d.la, d.lv, d.wv, ?_⟩
        rw [hop]; rw [hlps] at hpl; omega
      obtain ⟨v, p, s1, s2, s3⟩ := ih (i + 1) _ _ (by omega) hD (by rw [hop, hlps]; exact hw)
      refine ⟨v, p, im1 hi (Ev.step (fun k => ?_) s1), Ev.step (fun k => ?_) s2, s3⟩
      · simp only [impl_alone.j1]
        rw [decide_eq_false (by omega), if_neg (by simp), if_neg (by omega), if_neg (by omega), if_neg (by omega), if_neg (by omega), if_pos hk, if_pos (by omega), if_pos (by omega), h0, if_pos (by omega), if_pos (by omega), if_pos hb', e1, if_pos (by omega), if_pos (by simp; omega), e2, e3, e4]
        simp only [Option.bind_some]
        rw [e5, if_neg (by omega), if_pos (by simp; omega), w64n i (by omega), show ((X'.length : Int)).toNat = X'.length by omega, take_snoc]
      · simp only [spec_l08Alone.l0]
        rw [if_pos (by omega), if_pos (by omega), if_neg (by omega), if_neg (by omega), if_neg (by omega), if_neg (by omega), if_neg (by omega), if_pos hk', if_pos (by omega), h0, if_pos (by omega), if_pos (by omega), if_pos hb', if_pos (by omega), if_neg (by omega), w64n i (by omega)]
  · have hb2 : kd l b ≠ 5 := hb
    unfold kd at hb2
    have he : lps l (opens l (i + 1)) = lps l (opens l i) := by rw [hop, h3, lps_snoc, if_neg hb]
    have hD := d.next hP hi (i2 := i + 1) (vars' := vars) (path' := path) (by omega) (by omega) he d.lv d.wv (by omega)
    have hw := wt_next (n := l.length) (i1 := i) (i2 := i + 1) (L := lps l (opens l i)) (X := X) (by have := lps_len l (opens l i); have := hP.l4 i (by omega); omega) hX (by omega) hi
    obtain ⟨v, p, s1, s2, s3⟩ := ih (i + 1) _ _ (by omega) hD (by rw [he]; exact hw)
    refine ⟨v, p, im1 hi (Ev.step (fun k => ?_) s1), Ev.step (fun k => ?_) s2, s3⟩
    · simp only [impl_alone.j1]
      rw [decide_eq_false (by omega), if_neg (by simp), if_neg (by omega), if_neg (by omega), if_neg (by omega), if_neg (by omega), if_pos hk, if_pos (by omega), if_pos (by omega), h0, if_pos (by omega), if_pos (by omega), if_neg hb2, w64n i (by omega)]
    · simp only [spec_l08Alone.l0]
      rw [if_pos (by omega), if_pos (by omega), if_neg (by omega), if_neg (by omega), if_neg (by omega), if_neg (by omega), if_neg (by omega), if_pos hk', if_pos (by omega), h0, if_pos (by omega), if_pos (by omega), if_neg hb2, w64n i (by omega)]
theorem sim6 (hb : IsB a0) (hn : l.length ≤ 24) (hP : Paired a0 l P) (hi : i < l.length) (d : D a0 l i vars path X A) (hk : kd l i = 6)
    (ih : ∀ i2 X', i2 ≤ l.length → D a0 l i2 vars path X' A → wt l.length 4 (lps l (opens l i2)) X' i2 < wt l.length 4 (lps l (opens l i)) X i → Sim a0 l P i2 vars path X' A) : Sim a0 l P i vars path X A := by
  have F := (flds (hP.ok i hi)).k26 (.inr hk)
  have hk' := hk
  unfold kd at hk'
  have hlv := d.lv
  have hPl := hP.len
  have hX := d.rs.len
  obtain ⟨r, e1, e2⟩ := test_eq hb (d.rdv F.1) (d.rdv F.2) (rd_T75 l i).f2
  obtain ⟨t, b, B, C, h0, hkb, hC, ht, h1, h2, h4, h5⟩ := (hP.cl i hi).k6 hk
  cases r with
  | true =>
    have hlps : lps l (opens l i) = lps l B ++ [(b : Int)] := by
      have e0 : opens l i = (B ++ [(b : Int)]) ++ C := by rw [h0]; simp
      have e1 : lps l ((B ++ [(b : Int)]) ++ C) = lps l (B ++ [(b : Int)]) ++ lps l C := List.filter_append ..
      rw [e0, e1, lps_none l C hC, List.append_nil, lps_snoc, if_pos hkb]
    have hop : opens l (t + 1) = B := by rw [opens_pop h4, h5, List.dropLast_concat]
    have hbi : b < i := by
      obtain ⟨c, g1, g2⟩ := opens_lt l i (b : Int) (by rw [h0]; simp)
      omega
    have hl3 : (lps l B).length ≤ 3 := by
      have g1 := hP.l4 i (by omega)
      have g2 := lps_len l (opens l i)
      rw [hlps] at g2; simp at g2; omega
    obtain ⟨X', q, rfl, hrs, hbA, r1, r2, r8, hrd⟩ := d.rs.top hlps
    have hX' := hrs.len
    have hpl := d.pl
    have hw := (wt_pop (n := l.length) (i := i) (j := t + 1) (b := b) (L := lps l B) (X := X') (r := q) hl3 hX' (by omega) (by omega)).resolve_right (by omega)
    have hD : D a0 l (t + 1) vars path X' A := by
      refine ⟨by rw [hop]; exact hrs, d.la, d.lv, d.wv, ?_⟩
      rw [hop]; rw [hlps] at hpl; omega
    obtain ⟨v, p, s1, s2, s3⟩ := ih (t + 1) _ (by omega) hD (by rw [hop, hlps]; exact hw)
    have f1 : wrap64 (((X' ++ [q]).length : Int) - 1) = (X'.length : Int) := by rw [w64 (by simp; omega)]; simp
    refine ⟨v, p, im1 hi (Ev.step (fun k => ?_) s1), Ev.step (fun k => ?_) s2, s3⟩
    · simp only [impl_alone.j1]
      rw [decide_eq_false (by omega), if_neg (by simp), if_neg (by omega), if_neg (by omega), if_neg (by omega), if_pos hk, if_pos F.1.1, if_pos (by omega), if_pos F.2.1, if_pos (by omega), e1]
      simp only [Option.bind_some, if_true]
      rw [if_pos (by omega), if_pos (by omega), f1, if_pos (by omega), if_pos (by simp; omega), ht, w64n t (by omega), show ((X'.length : Int)).toNat = X'.length by omega, take_snoc]
    · simp only [spec_l08Alone.l0]
      rw [if_pos (by omega), if_pos (by omega), if_neg (by omega), if_neg (by omega), if_neg (by omega), if_neg (by omega), if_neg (by omega), if_neg (by omega), if_pos hk', if_pos F.1.1, if_pos (by omega), if_pos F.2.1, if_pos (by omega), e2]
      simp only [Option.bind_some, if_true]
      rw [if_pos (by omega), ht, w64n t (by omega)]
  | false =>
    have he : lps l (opens l (i + 1)) = lps l (opens l i) := by rw [opens_same (by omega) (by omega) (by omega)]
    have hD := d.next hP hi (i2 := i + 1) (vars' := vars) (path' := path) (by omega) (by omega) he d.lv d.wv (by omega)
    have hw := wt_next (n := l.length) (i1 := i) (i2 := i + 1) (L := lps l (opens l i)) (X := X) (by have := lps_len l (opens l i); have := hP.l4 i (by omega); omega) hX (by omega) hi
    obtain ⟨v, p, s1, s2, s3⟩ := ih (i + 1) _ (by omega) hD (by rw [he]; exact hw)
    refine ⟨v, p, im1 hi (Ev.step (fun k => ?_) s1), Ev.step (fun k => ?_) s2, s3⟩
    · simp only [impl_alone.j1]
      rw [decide_eq_false (by omega), if_neg (by simp), if_neg (by omega), if_neg (by omega), if_neg (by omega), if_pos hk, if_pos F.1.1, if_pos (by omega), if_pos F.2.1, if_pos (by omega), e1]
      simp only [Option.bind_some]
      rw [if_neg (by simp), w64n i (by omega)]
    · simp only [spec_l08Alone.l0]
      rw [if_pos (by omega), if_pos (by omega), if_neg (by omega), if_neg (by omega), if_neg (by omega), if_neg (by omega), if_neg (by omega), if_neg (by omega), if_pos hk', if_pos F.1.1, if_pos (by omega), if_pos F.2.1, if_pos (by omega), e2]
      simp only [Option.bind_some]
      rw [if_neg (by simp), w64n i (by omega)]
theorem sim_all (hb : IsB a0) (hn : l.length ≤ 24) (hP : Paired a0 l P) : ∀ (N i : Nat) (vars path X A : List Int), wt l.length 4 (lps l (opens l i)) X i < N → i ≤ l.length → D a0 l i vars path X A → Sim a0 l P i vars path X A := by
  intro N
  induction N with
  | zero => intro i vars path X A h; omega
  | succ N ih =>
    intro i vars path X A hw hi d
    by_cases hlt : i < l.length
    · have hX := d.rs.len
      have h4 := hP.l4 i hi
      have hll := lps_len l (opens l i)
      have fwd : ∀ i2, i < i2 → lps l (opens l i2) = lps l (opens l i) → wt l.length 4 (lps l (opens l i2)) X i2 < N := fun i2 h1 h2 => by
        have := wt_next (n := l.length) (i1 := i) (i2 := i2) (L := lps l (opens l i)) (X := X) (by omega) hX h1 hlt
        rw [h2]; omega
      rcases okAt_kind (hP.ok i hlt) with h | h | h | h | h | h | h
      · exact sim0 hb hn hP hlt d h (fun vars' path' d' => ih _ _ _ _ _ (fwd _ (by omega) (by rw [opens_same (by omega) (by omega) (by omega)])) (by omega) d')
      · exact sim1 hb hn hP hlt d h (fun vars' path' d' => ih _ _ _ _ _ (fwd _ (by omega) (by rw [opens_same (by omega) (by omega) (by omega)])) (by omega) d')
      · exact sim2 hb hn hP hlt d h (fun i2 g1 g2 g3 d' => ih _ _ _ _ _ (fwd i2 g1 g3) g2 d')
      · exact sim3 hn hP hlt d h (fun i2 g1 g2 g3 d' => ih _ _ _ _ _ (fwd i2 g1 g3) g2 d')
      · exact sim4 hn hP hlt d h (fun i2 X' A' g1 d' g2 => ih _ _ _ _ _ (by omega) g1 d')
      · exact sim5 hn hP hlt d h (fun X' A' d' g2 => ih _ _ _ _ _ (by omega) (by omega) d')
      · exact sim6 hb hn hP hlt d h (fun i2 X' g1 d' g2 => ih _ _ _ _ _ (by omega) g1 d')
    · have : i = l.length := by omega
      subst this
      have hpl := d.pl
      refine ⟨vars, path, Ev.step (f := fun _ => some (vars, path)) (fun k => ?_) (Ev.now _), Ev.step (f := fun _ => some (vars, path)) (fun k => ?_) (Ev.now _), d.lv, by omega⟩
      · simp only [impl_alone.l0]; rw [if_neg (by omega)]
      · simp only [spec_l08Alone.l0]; rw [if_neg (by omega)]
theorem own_spec (l2 : List Int) (h : l2.length < 17592186044416) : spec_l00Own.f l2 = some l2 := by
  unfold spec_l00Own.f; simp [h]
theorem alone_eq (hb : IsB a0) (hn : l.length ≤ 24) {P' : List Int} (hf : ∀ k, impl_paired.f (k + 2) a0 l = some (P, true)) (hP : Paired a0 l P) (hlv : vars.length = 8) (hwv : ∀ j : Nat, j < 8 → Wd a0 (rd vars j)) :
    ∃ v p : List Int, Ev (fun k => impl_alone.f k a0 l vars) (v, p) ∧ Ev (fun k => spec_l08Alone.f k a0 l vars) (v, p) ∧ v.length = 8 ∧ p.length ≤ 64072265625 := by
  have hD : D a0 l 0 vars [] [] (List.replicate l.length 0) := by
    refine ⟨.nil, by simp, hlv, hwv, ?_⟩
    have h1 := wt_lt hn 4 (lps l (opens l 0)) [] 0 (by simp)
    have h2 : TT 4 = 64072265625 := by decide +kernel
    simp only [List.length_nil]; omega
  obtain ⟨v, p, s1, s2, s3⟩ := sim_all hb hn hP _ 0 vars [] [] (List.replicate l.length 0) (Nat.lt_succ_self _) (by omega) hD
  refine ⟨v, p, ?_, ?_, s3⟩
  · unfold impl_alone.f slices_Clone_int64_int64.f
    rw [if_pos (by omega)]
    simp only [Option.bind_some]
    have hp : Ev (fun k => impl_paired.f k a0 l) (P, true) := ⟨2, fun k hk => by obtain ⟨m, rfl⟩ : ∃ m, k = m + 2 := ⟨k - 2, by omega⟩; exact hf m⟩
    exact Ev.bind hp s1
  · unfold spec_l08Alone.f
    rw [own_spec vars (by omega)]
    refine Ev.bind hP.spec ?_
    simp only [Option.bind_some]
    refine evif (by omega) (evif (by omega) ?_)
    rw [show ((l.length : Int)).toNat = l.length by omega]
    exact s2
end
end Go.Proofs.Ytfpcfaapoeeipaa.Aln
namespace Go.Proofs.Ytfpcfaapoeeipaa.Lps
open Go.RowKit Go.Proofs.YtfpcfaapoeeipaaW.PrintWords Go.Proofs.YtfpcfaapoeeipaaW.PrintLast Go.Proofs.YtfpcfaapoeeipaaW.PrintMore Go.Proofs.Ytfpcfaapoeeipaa.P Go.Proofs.Ytfpcfaapoeeipaa.Ops Go.Proofs.Ytfpcfaapoeeipaa.Lns Go.Proofs.Ytfpcfaapoeeipaa.Stat
theorem w64N (i : Nat) (h : i ≤ 4611686018427387904) : wrap64 ((i : Int) + 1) = ((i + 1 : Nat) : Int) := by rw [w64 (by omega)]; omega
theorem set_take_drop {α : Type} (xs ys : List α) (i : Nat) (v : α) (h : i < xs.length) (hv : ys[i]? = some v) : (ys.take i ++ xs.drop i).set i v = ys.take (i + 1) ++ xs.drop (i + 1) := by
  have hy : i < ys.length := by
    rcases Nat.lt_or_ge i ys.length with h1 | h1
    · exact h1
    · rw [List.getElem?_eq_none h1] at hv; cases hv
  have e : ys[i] = v := by rw [List.getElem?_eq_getElem hy] at hv; exact Option.some.inj hv
  apply List.ext_getElem?
  intro j
  by_cases hj : j = i
  · subst hj
    rw [List.getElem?_set_self (by simp; omega), List.getElem?_append_left (by simp; omega), List.getElem?_take]
    simp [hv]
  · rw [List.getElem?_set_ne (Ne.symm hj)]
    rcases Nat.lt_or_ge j i with h1 | h1
    · rw [List.getElem?_append_left (by simp; omega), List.getElem?_append_left (by simp; omega), List.getElem?_take, List.getElem?_take]
      simp [h1, show j < i + 1 by omega]
    · rw [List.getElem?_append_right (by simp; omega), List.getElem?_append_right (by simp; omega), List.getElem?_drop, List.getElem?_drop]
      congr 1; simp; omega
theorem rd_some (xs : List Int) (i : Nat) (h : i < xs.length) : xs[i]? = some (rd xs (i : Int)) := by rw [rd_nat]; simp [List.getD, h]
theorem toI (l : List Int) (h : l.length ≤ 1048576) : Ev (fun k => laws_toInt64S.f k l) l := by
  have key : ∀ (d i : Nat), l.length - i = d → i ≤ l.length → Ev (fun k => laws_toInt64S.l0 k l (l.take i ++ (List.replicate l.length 0).drop i) i) l := by
    intro d
    induction d with
    | zero =>
      intro i hd hi
      have : i = l.length := by omega
      subst this
      refine Ev.step (f := fun _ => some l) (fun k => ?_) (Ev.now _)
      simp only [laws_toInt64S.l0]; rw [if_neg (by omega)]; simp
    | succ d ih =>
      intro i hd hi
      refine Ev.step (fun k => ?_) (ih (i + 1) (by omega) (by omega))
      simp only [laws_toInt64S.l0]
      rw [if_pos (by omega), if_pos (by omega), if_pos (by simp; omega), w64N i (by omega), show ((i : Int)).toNat = i by omega, set_take_drop _ _ _ _ (by simp; omega) (rd_some l i (by omega))]
  have := key l.length 0 (by omega) (by omega)
  simp only [List.take_zero, List.drop_zero, List.nil_append] at this
  unfold laws_toInt64S.f
  refine evif (by omega) (evif (by omega) ?_)
  rw [show ((l.length : Int)).toNat = l.length by omega]
  exact this
def cv (x : S77) : S75 := ⟨x.f0, x.f1, x.f2, x.f3, x.f4⟩
theorem toL (l : List S77) (h : l.length ≤ 1048576) : Ev (fun k => laws_toLineS.f k l) (l.map cv) := by
  have key : ∀ (d i : Nat), l.length - i = d → i ≤ l.length → Ev (fun k => laws_toLineS.l0 k l ((l.map cv).take i ++ (List.replicate l.length z75).drop i) i) (l.map cv) := by
    intro d
    induction d with
    | zero =>
      intro i hd hi
      have : i = l.length := by omega
      subst this
      refine Ev.step (f := fun _ => some (l.map cv)) (fun k => ?_) (Ev.now _)
      simp only [laws_toLineS.l0]; rw [if_neg (by omega)]
      rw [List.take_of_length_le (by simp), List.drop_eq_nil_of_le (by simp)]; simp
    | succ d ih =>
      intro i hd hi
      refine Ev.step (fun k => ?_) (ih (i + 1) (by omega) (by omega))
      have hg : (l.map cv)[i]? = some (cv (rd_T77 l i)) := by simp [rd_T77, List.getD, show i < l.length by omega]
      simp only [laws_toLineS.l0, laws_toLine.f, Option.bind_some]
      rw [if_pos (by omega), if_pos (by omega), if_pos (by simp; omega), w64N i (by omega), show ((i : Int)).toNat = i by omega]
      rw [← set_take_drop _ _ _ _ (by simp; omega) hg]; rfl
  have := key l.length 0 (by omega) (by omega)
  simp only [List.take_zero, List.drop_zero, List.nil_append] at this
  unfold laws_toLineS.f
  refine evif (by omega) (evif (by omega) ?_)
  rw [show ((l.length : Int)).toNat = l.length by omega]
  exact this
theorem eqI (l : List Int) (h : l.length ≤ 4611686018427387904) : Ev (fun k => laws_eqInt64S.f k l l) true := by
  have key : ∀ (d i : Nat), l.length - i = d → i ≤ l.length → Ev (fun k => laws_eqInt64S.l0 k l l i) true := by
    intro d
    induction d with
    | zero =>
      intro i hd hi
      refine Ev.step (f := fun _ => some true) (fun k => ?_) (Ev.now _)
      simp only [laws_eqInt64S.l0]; rw [if_neg (by omega)]
    | succ d ih =>
      intro i hd hi
      refine Ev.step (fun k => ?_) (ih (i + 1) (by omega) (by omega))
      simp only [laws_eqInt64S.l0]
      rw [if_pos (by omega), if_pos (by omega), if_pos (by omega), if_pos trivial, w64N i (by omega)]
  unfold laws_eqInt64S.f
  exact evif rfl (key l.length 0 (by omega) (by omega))
theorem eqL (l : List S75) (h : l.length ≤ 4611686018427387904) : Ev (fun k => laws_eqLineS.f k l l) true := by
  have key : ∀ (d i : Nat), l.length - i = d → i ≤ l.length → Ev (fun k => laws_eqLineS.l0 k l l i) true := by
    intro d
    induction d with
    | zero =>
      intro i hd hi
      refine Ev.step (f := fun _ => some true) (fun k => ?_) (Ev.now _)
      simp only [laws_eqLineS.l0]; rw [if_neg (by omega)]
    | succ d ih =>
      intro i hd hi
      refine Ev.step (fun k => ?_) (ih (i + 1) (by omega) (by omega))
      simp only [laws_eqLineS.l0, laws_eqLine.f, if_true, Option.bind_some]
      rw [if_pos (by omega), if_pos (by omega), if_pos (by omega), w64N i (by omega)]
  unfold laws_eqLineS.f
  exact evif rfl (key l.length 0 (by omega) (by omega))
theorem markI (l : List Int) (m : Nat) (h : m + l.length ≤ 4611686018427387904) :
    ∃ l', l'.length = l.length ∧ Ev (fun k => laws_markInt64S.f k l m) (((m + l.length : Nat) : Int), l') ∧ Ev (fun k => laws_heldInt64S.f k l' m) ((m + l.length : Nat) : Int) := by
  have key : ∀ (d i : Nat) (x : List Int), l.length - i = d → i ≤ l.length → x.length = l.length → (∀ j : Nat, j < i → rd x j = ((m + j : Nat) : Int)) →
      ∃ l', l'.length = l.length ∧ (∀ j : Nat, j < l.length → rd l' j = ((m + j : Nat) : Int)) ∧ Ev (fun k => laws_markInt64S.l0 k x ((m + i : Nat) : Int) i) (((m + l.length : Nat) : Int), l') := by
    intro d
    induction d with
    | zero =>
      intro i x hd hi hx hr
      have : i = l.length := by omega
      subst this
      refine ⟨x, hx, hr, Ev.step (f := fun _ => some (((m + l.length : Nat) : Int), x)) (fun k => ?_) (Ev.now _)⟩
      simp only [laws_markInt64S.l0]; rw [if_neg (by omega)]
    | succ d ih =>
      intro i x hd hi hx hr
      obtain ⟨l', h1, h2, h3⟩ := ih (i + 1) (x.set i ((m + i : Nat) : Int)) (by omega) (by omega) (by simp [hx]) (fun j hj => by
        rw [rd_set _ _ _ _ (by omega)]
        by_cases e : j = i
        · rw [if_pos e, e]
        · rw [if_neg e]; exact hr j (by omega))
      refine ⟨l', h1, h2, Ev.step (fun k => ?_) h3⟩
      simp only [laws_markInt64S.l0]
      rw [if_pos (by omega), if_pos (by omega), w64N i (by omega), w64N (m + i) (by omega)]
      rfl
  obtain ⟨l', h1, h2, h3⟩ := key l.length 0 l (by omega) (by omega) rfl (fun j hj => by omega)
  refine ⟨l', h1, h3, ?_⟩
  have key2 : ∀ (d i : Nat), l.length - i = d → i ≤ l.length → Ev (fun k => laws_heldInt64S.l0 k l' ((m + i : Nat) : Int) i) ((m + l.length : Nat) : Int) := by
    intro d
    induction d with
    | zero =>
      intro i hd hi
      have : i = l.length := by omega
      subst this
      refine Ev.step (f := fun _ => some ((m + l.length : Nat) : Int)) (fun k => ?_) (Ev.now _)
      simp only [laws_heldInt64S.l0]; rw [if_neg (by omega)]
    | succ d ih =>
      intro i hd hi
      refine Ev.step (fun k => ?_) (ih (i + 1) (by omega) (by omega))
      simp only [laws_heldInt64S.l0]
      rw [if_pos (by omega), if_pos (by omega), h2 i (by omega), if_pos rfl, w64N i (by omega), w64N (m + i) (by omega)]
      rfl
  exact key2 l.length 0 (by omega) (by omega)
def mk1 (x : List S75) (i a : Int) : List S75 := x.set i.toNat ⟨a, (rd_T75 x i).f1, (rd_T75 x i).f2, (rd_T75 x i).f3, (rd_T75 x i).f4⟩
def mk2 (x : List S75) (i a : Int) : List S75 := x.set i.toNat ⟨(rd_T75 x i).f0, a, (rd_T75 x i).f2, (rd_T75 x i).f3, (rd_T75 x i).f4⟩
def mk3 (x : List S75) (i a : Int) : List S75 := x.set i.toNat ⟨(rd_T75 x i).f0, (rd_T75 x i).f1, a, (rd_T75 x i).f3, (rd_T75 x i).f4⟩
def mk4 (x : List S75) (i a : Int) : List S75 := x.set i.toNat ⟨(rd_T75 x i).f0, (rd_T75 x i).f1, (rd_T75 x i).f2, a, (rd_T75 x i).f4⟩
def mk5 (x : List S75) (i a : Int) : List S75 := x.set i.toNat ⟨(rd_T75 x i).f0, (rd_T75 x i).f1, (rd_T75 x i).f2, (rd_T75 x i).f3, a⟩
theorem markL (l : List S75) (m : Nat) (h : m + 5 * l.length ≤ 4611686018427387904) : ∃ l', Ev (fun k => laws_markLineS.f k l m) (((m + 5 * l.length : Nat) : Int), l') := by
  have key : ∀ (d i : Nat) (x : List S75), l.length - i = d → i ≤ l.length → x.length = l.length →
      ∃ l', Ev (fun k => laws_markLineS.l0 k x ((m + 5 * i : Nat) : Int) i) (((m + 5 * l.length : Nat) : Int), l') := by
    intro d
    induction d with
    | zero =>
      intro i x hd hi hx
      have : i = l.length := by omega
      subst this
      refine ⟨x, Ev.step (f := fun _ => some (((m + 5 * l.length : Nat) : Int), x)) (fun k => ?_) (Ev.now _)⟩
      simp only [laws_markLineS.l0]; rw [if_neg (by omega)]
    | succ d ih =>
      intro i x hd hi hx
      let y := mk5 (mk4 (mk3 (mk2 (mk1 x i ((m + 5 * i : Nat) : Int)) i ((m + 5 * i + 1 : Nat) : Int)) i ((m + 5 * i + 1 + 1 : Nat) : Int)) i ((m + 5 * i + 1 + 1 + 1 : Nat) : Int)) i ((m + 5 * i + 1 + 1 + 1 + 1 : Nat) : Int)
      have hy : y.length = l.length := by simp [y, mk1, mk2, mk3, mk4, mk5, hx]
      have hs : ∀ k, laws_markLineS.l0 (k + 1) x ((m + 5 * i : Nat) : Int) i = laws_markLineS.l0 k y ((m + 5 * (i + 1) : Nat) : Int) ((i + 1 : Nat) : Int) := by
        intro k
        simp only [laws_markLineS.l0, Option.bind_some]
        rw [if_pos (by omega), if_pos (by omega), w64N i (by omega), w64N (m + 5 * i) (by omega), w64N (m + 5 * i + 1) (by omega), w64N (m + 5 * i + 1 + 1) (by omega), w64N (m + 5 * i + 1 + 1 + 1) (by omega), w64N (m + 5 * i + 1 + 1 + 1 + 1) (by omega), show m + 5 * i + 1 + 1 + 1 + 1 + 1 = m + 5 * (i + 1) by omega]
        rfl
      obtain ⟨l', h1⟩ := ih (i + 1) y (by omega) (by omega) hy
      exact ⟨l', Ev.step hs h1⟩
  exact key l.length 0 l (by omega) (by omega) rfl
theorem szL (l : List S77) (h : l.length ≤ 35184372088832) : laws_szLineS.f l 1048576 = some (if l.length ≤ 1048576 then (1048576 - (l.length : Int)) else -1) := by
  unfold laws_szLineS.f
  rw [w64 (by omega)]
  by_cases c : l.length ≤ 1048576
  · rw [if_neg (by omega), if_pos c]
  · rw [if_pos (by omega), if_neg c]
end Go.Proofs.Ytfpcfaapoeeipaa.Lps
namespace Go.Proofs.Ytfpcfaapoeeipaa.Law3
open Go.RowKit Go.Proofs.YtfpcfaapoeeipaaW.PrintWords Go.Proofs.YtfpcfaapoeeipaaW.PrintLast Go.Proofs.YtfpcfaapoeeipaaW.PrintMore Go.Proofs.Ytfpcfaapoeeipaa.P Go.Proofs.Ytfpcfaapoeeipaa.Ops Go.Proofs.Ytfpcfaapoeeipaa.Lns Go.Proofs.Ytfpcfaapoeeipaa.Stat Go.Proofs.Ytfpcfaapoeeipaa.Aln Go.Proofs.Ytfpcfaapoeeipaa.Lps
theorem valid_eq (a0 : Int) (l : List S75) (hl : l.length ≤ 1048576) : ∃ V : Bool, Ev (fun k => impl_ValidLines.f k a0 l) V ∧ Ev (fun k => spec_l08Is.f k a0 l) V ∧
    (V = true → IsB a0 ∧ l.length ≤ 24 ∧ ∃ P, (∀ k, impl_paired.f (k + 2) a0 l = some (P, true)) ∧ Paired a0 l P) := by
  have himp : ∀ (V : Bool), (isB a0 = true → l.length ≤ 24 → Ev (fun k => (impl_paired.f k a0 l).bind fun bt => some bt.2) V) → (isB a0 = false → V = false) → (24 < l.length → V = false) → Ev (fun k => impl_ValidLines.f k a0 l) V := by
    intro V h1 h2 h3
    unfold impl_ValidLines.f
    rw [bits_impl]
    simp only [Option.bind_some]
    by_cases hb : isB a0 = true
    · refine evif hb ?_
      by_cases hn : l.length ≤ 24
      · exact evelse (by omega) (h1 hb hn)
      · rw [h3 (by omega)]
        exact evif (by omega) (Ev.now _)
    · rw [h2 (by simpa using hb)]
      exact evelse hb (Ev.now _)
  have hsp : ∀ (r : List Int) (ok : Bool), Ev (fun k => spec_l08Pairs.f k a0 l) (r, ok) → Ev (fun k => spec_l08Is.f k a0 l) (isB a0 && ok) := by
    intro r ok h
    unfold spec_l08Is.f
    refine Ev.bind h ?_
    rw [bits_spec]
    simp only [Option.bind_some]
    cases hb : isB a0 with
    | true => exact evif rfl (Ev.now _)
    | false => exact evelse (by simp) (Ev.now _)
  by_cases hn : l.length ≤ 24
  · obtain ⟨r1, ok, h1, h2, h3⟩ := pairs_eq (a0 := a0) hn
    have hp : Ev (fun k => impl_paired.f k a0 l) (r1, ok) := ⟨2, fun k hk => by obtain ⟨m, rfl⟩ : ∃ m, k = m + 2 := ⟨k - 2, by omega⟩; exact h1 m⟩
    refine ⟨isB a0 && ok, himp _ (fun hb _ => by rw [hb]; exact Ev.bind hp (Ev.now _)) (fun hb => by rw [hb]; rfl) (fun h => by omega), ?_, fun hV => ?_⟩
    · cases ok with
      | true => exact hsp _ _ (h2 rfl).spec
      | false => obtain ⟨r2, h⟩ := h3 rfl; exact hsp _ _ h
    · simp only [Bool.and_eq_true] at hV
      obtain ⟨hb, rfl⟩ := hV
      exact ⟨isB_iff.1 hb, hn, r1, h1, h2 rfl⟩
  · refine ⟨false, himp _ (fun _ h => absurd h hn) (fun _ => rfl) (fun _ => rfl), ?_, fun h => by cases h⟩
    have := hsp _ _ (pairs_long (a0 := a0) (l := l) (by omega))
    rwa [Bool.and_false] at this
def isVars (a0 : Int) (v : List Int) : Bool := decide (v.length = 8) && v.all (isW a0)
theorem allO_all {α : Type} (q : α → Bool) : ∀ xs : List α, allO (fun x => some (q x)) xs = some (xs.all q)
  | [] => rfl
  | x :: xs => by
    simp only [allO, Option.bind_some, List.all_cons]
    cases h : q x
    · simp
    · simp [allO_all q xs]
theorem vars_impl (a0 : Int) (v : List Int) : impl_areVars.f a0 v = some (isVars a0 v) := by
  unfold impl_areVars.f isVars
  rw [show impl_IsWord.f a0 = fun x => some (isW a0 x) from funext (word_impl a0), allO_all]
  by_cases h : v.length = 8 <;> simp [h]
theorem vars_spec (a0 : Int) (v : List Int) : Ev (fun k => spec_l08Vars.f k a0 v) (isVars a0 v) := by
  unfold spec_l08Vars.f isVars
  by_cases h : v.length = 8
  · refine evif (by omega) ?_
    have key : ∀ (d i : Nat), v.length - i = d → i ≤ v.length → Ev (fun k => spec_l01Words.l0 k a0 v i) ((v.drop i).all (isW a0) && (decide (v.length ≤ i) && isB a0 || decide (i < v.length))) := by
      intro d
      induction d with
      | zero =>
        intro i hd hi
        have : i = v.length := by omega
        subst this
        refine Ev.step (f := fun _ => some (isB a0)) (fun k => ?_) ?_
        · simp only [spec_l01Words.l0]; rw [if_neg (by omega), bits_spec]; rfl
        · simp; exact Ev.now _
      | succ d ih =>
        intro i hd hi
        have hlt : i < v.length := by omega
        rw [drop_cons_rd v i hlt, List.all_cons]
        refine Ev.step (f := fun k => if isW a0 (rd v i) = true then spec_l01Words.l0 k a0 v ((i + 1 : Nat) : Int) else some false) (fun k => ?_) ?_
        · simp only [spec_l01Words.l0]; rw [if_pos (by omega), if_pos (by omega), word_spec, w64n i (by omega)]; rfl
        · cases hw : isW a0 (rd v i) with
          | false => refine evelse (by simp) ?_; simp; exact Ev.now _
          | true =>
            refine evif rfl ?_
            have := ih (i + 1) (by omega) (by omega)
            by_cases hl : i + 1 < v.length
            · simpa [hlt, hl, show ¬ v.length ≤ i + 1 by omega, show ¬ v.length ≤ i by omega] using this
            · have hB : isB a0 = true := by unfold isW at hw; simp only [Bool.and_eq_true] at hw; exact hw.1
              simpa [hlt, hl, show v.length ≤ i + 1 by omega, show ¬ v.length ≤ i by omega, hB] using this
    have := key v.length 0 (by omega) (by omega)
    simp [h] at this
    simp [h]
    exact this
  · have e : (decide (v.length = 8) && v.all (isW a0)) = false := by simp [h]
    rw [e]
    exact evelse (by omega) (Ev.now _)
theorem isVars_words {a0 : Int} (hb : IsB a0) {v : List Int} (h : isVars a0 v = true) : v.length = 8 ∧ ∀ j : Nat, j < 8 → Wd a0 (rd v j) := by
  unfold isVars at h
  simp only [Bool.and_eq_true, decide_eq_true_eq, List.all_eq_true] at h
  refine ⟨h.1, fun j hj => (isW_iff hb).1 (h.2 _ ?_)⟩
  rw [rd_nat]; simp [List.getD, h.1, hj]
theorem ask_eq (a0 : Int) (l : List S75) (v : List Int) (hl : l.length ≤ 1048576) :
    (Ev (fun k => spec_l08Ask.f k a0 l v) false ∧ (∃ W : Bool, Ev (fun k => impl_ValidLines.f k a0 l) W ∧ (W = true → impl_areVars.f a0 v = some false))) ∨
    (∃ x p : List Int, Ev (fun k => spec_l08Ask.f k a0 l v) true ∧ Ev (fun k => impl_ValidLines.f k a0 l) true ∧ impl_areVars.f a0 v = some true ∧ Ev (fun k => impl_alone.f k a0 l v) (x, p) ∧ Ev (fun k => spec_l08Alone.f k a0 l v) (x, p) ∧ x.length = 8 ∧ p.length ≤ 64072265625) := by
  obtain ⟨V, h1, h2, h3⟩ := valid_eq a0 l hl
  have hask : ∀ b : Bool, (V = true → isVars a0 v = b) → (V = false → b = false) → Ev (fun k => spec_l08Ask.f k a0 l v) b := by
    intro b e1 e2
    unfold spec_l08Ask.f
    refine Ev.bind h2 ?_
    cases V with
    | true => rw [← e1 rfl]; exact evif rfl (Ev.bind (vars_spec a0 v) (Ev.now _))
    | false => rw [e2 rfl]; exact evelse (by simp) (Ev.now _)
  by_cases hV : V = true ∧ isVars a0 v = true
  · obtain ⟨rfl, hv⟩ := hV
    obtain ⟨hb, hn, P, hf, hP⟩ := h3 rfl
    obtain ⟨hlv, hwv⟩ := isVars_words hb hv
    obtain ⟨x, p, s1, s2, s3, s4⟩ := alone_eq (P' := []) hb hn hf hP hlv hwv
    exact .inr ⟨x, p, hask true (fun _ => hv) (fun h => by cases h), h1, by rw [vars_impl, hv], s1, s2, s3, s4⟩
  · refine .inl ⟨hask false (fun h => ?_) (fun _ => rfl), V, h1, fun h => ?_⟩
    · cases hv : isVars a0 v
      · rfl
      · exact absurd ⟨h, hv⟩ hV
    · rw [vars_impl]
      cases hv : isVars a0 v
      · rfl
      · exact absurd ⟨h, hv⟩ hV
end Go.Proofs.Ytfpcfaapoeeipaa.Law3
set_option linter.unusedSimpArgs false
set_option linter.unusedVariables false
namespace Go.Proofs.Ytfpcfaapoeeipaa.Law3
open Go.RowKit Go.Proofs.YtfpcfaapoeeipaaW.PrintWords Go.Proofs.YtfpcfaapoeeipaaW.PrintLast Go.Proofs.YtfpcfaapoeeipaaW.PrintMore Go.Proofs.Ytfpcfaapoeeipaa.P Go.Proofs.Ytfpcfaapoeeipaa.Ops Go.Proofs.Ytfpcfaapoeeipaa.Lns Go.Proofs.Ytfpcfaapoeeipaa.Stat Go.Proofs.Ytfpcfaapoeeipaa.Aln Go.Proofs.Ytfpcfaapoeeipaa.Lps
theorem path_eq (a0 : Int) (l : List S75) (v : List Int) (hl : l.length ≤ 1048576) : ∃ (p : List Int) (ok : Bool), p.length ≤ 64072265625 ∧ Ev (fun k => impl_PathOf.f k a0 l v) (p, ok) ∧ Ev (fun k => spec_PathOf.f k a0 l v) (p, ok) := by
  rcases ask_eq a0 l v hl with ⟨h1, W, h2, h3⟩ | ⟨x, p, h1, h2, h3, h4, h5, h6, h7⟩
  · refine ⟨[], false, by simp, ?_, ?_⟩
    · unfold impl_PathOf.f
      refine Ev.bind h2 ?_
      cases W with
      | true => rw [h3 rfl]; exact evif rfl (Ev.now _)
      | false => exact evelse (by simp) (Ev.now _)
    · unfold spec_PathOf.f
      exact Ev.bind h1 (evelse (by simp) (Ev.now _))
  · refine ⟨p, true, h7, ?_, ?_⟩
    · unfold impl_PathOf.f
      refine Ev.bind h2 (evif rfl ?_)
      rw [h3]
      simp only [Option.bind_some]
      exact evif trivial (Ev.bind h4 (Ev.now _))
    · unfold spec_PathOf.f
      exact Ev.bind h1 (evif rfl (Ev.bind h5 (Ev.now _)))
section
variable (a0 : Int) (l1 : List S77) (l2 : List Int)
theorem FnExactPathOf (hl : l1.length ≤ 35184372088832) : ∃ k, laws_FnExactPathOf.f k a0 l1 l2 = some true := by
  apply Ev.rounds
  unfold laws_FnExactPathOf.f
  by_cases c2 : l2.length ≤ 1048576
  · refine evelse (by omega) ?_
    rw [szL l1 hl]
    simp only [Option.bind_some]
    by_cases c1 : l1.length ≤ 1048576
    · rw [if_pos c1]
      refine evelse (by omega) ?_
      have t1 := toL l1 c1
      have t2 := toI l2 c2
      have hml : (l1.map cv).length ≤ 1048576 := by simpa using c1
      obtain ⟨p, ok, hp, e1, e2⟩ := path_eq a0 (l1.map cv) l2 hml
      have eqp := eqI p (by omega)
      obtain ⟨m1, g1⟩ := markL (l1.map cv) 1 (by omega)
      obtain ⟨m2, _, g2, _⟩ := markI l2 (1 + 5 * (l1.map cv).length) (by omega)
      obtain ⟨m3, hm3, g3, g4⟩ := markI p 1 (by omega)
      refine Ev.bind t1 (Ev.bind t2 (Ev.bind e2 (Ev.bind t1 (Ev.bind t2 (Ev.bind e1 (Ev.bind eqp (evif rfl ?_)))))))
      simp only [bne_self_eq_false]
      refine Ev.step (fun k => by simp only [laws_FnExactPathOf.j0]; rw [if_neg (by simp)]) ?_
      refine Ev.bind t1 (Ev.bind (eqL _ (by omega)) (evif rfl (Ev.bind t2 (Ev.bind (eqI _ (by omega)) (evif rfl (Ev.bind g1 (Ev.bind g2 (evelse (by simp only []; omega) (Ev.bind eqp (evif rfl ?_))))))))))
      simp only [bne_self_eq_false]
      refine Ev.step (fun k => by simp only [laws_FnExactPathOf.j1]; rw [if_neg (by simp)]) ?_
      refine Ev.bind g3 (Ev.bind g4 (evelse (by omega) (evif rfl (Ev.bind t1 (Ev.bind t2 (Ev.bind e1 (Ev.bind eqp (evif rfl ?_))))))))
      simp only [bne_self_eq_false]
      refine Ev.step (fun k => by simp only [laws_FnExactPathOf.j2]; rw [if_neg (by simp)]) ?_
      exact Ev.bind g4 (evelse (by omega) (evif rfl (Ev.now _)))
    · rw [if_neg c1]
      exact evif (by omega) (Ev.now _)
  · exact evif (by omega) (Ev.now _)
end
end Go.Proofs.Ytfpcfaapoeeipaa.Law3
