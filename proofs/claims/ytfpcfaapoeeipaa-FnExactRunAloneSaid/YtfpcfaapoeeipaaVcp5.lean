/- Contracts of functions of the given program, written by a program of this session out of the translation: each says that a call of the function does what the Lean function of its name says. -/
import Derived.Test.YtfpcfaapoeeipaaVcy0
import Derived.Test.YtfpcfaapoeeipaaVcp0
import Derived.Test.YtfpcfaapoeeipaaVcp1
import Derived.Test.YtfpcfaapoeeipaaVcp2
import Derived.Test.YtfpcfaapoeeipaaVcp3
import Derived.Test.YtfpcfaapoeeipaaVcp4
import Derived.Deep.DeepMust
import Derived.Deep.RegionLaw
import Derived.Test.YtfpcfaapoeeipaaVcy1
namespace Go.Proofs.Ytfpcfaapoeeipaa.P
open Go.RowKit Go.Proofs.YtfpcfaapoeeipaaW.PrintWords Go.Proofs.YtfpcfaapoeeipaaW.PrintLast Go.Proofs.YtfpcfaapoeeipaaW.PrintMore
attribute [local go_sem] max2_int min2_int max_two min_two
set_option linter.unusedVariables false
set_option linter.unusedSimpArgs false
structure PSt where
  out : List Int
  opn : List Int
  loops : List Int
  stops : List (List Int)
  rounds : List Int
  els : List Int
def lastI (xs : List Int) : Int := xs.getD (xs.length - 1) 0
def impl_paired.fin (s : PSt) : Option (Option PSt) :=
  if 4 < s.opn.length then some none else if 0 < s.rounds.length then (if 64 < lastI s.rounds then some none else some (some s)) else none
def inB (x : Int) (n : Nat) : Prop := 0 ≤ x ∧ x < (n : Int)
instance (x : Int) (n : Nat) : Decidable (inB x n) := by unfold inB; exact inferInstance
theorem own_max {w : World} {base n : Nat} {e : TypeId} {v : Value} {xs : List Value} (h : w.ownsRow base e 1 v n xs) : n ≤ 9223372036854775807 := by
  rcases h.2 with ⟨_, h0⟩ | ⟨g, cap, cur, _, _, _, h1, h2, _⟩
  · omega
  · simp only [maxLen] at h2; omega
def setAll (i : Int) : List Int → List Int → Option (List Int)
  | [], out => some out
  | k :: ks, out => if inB k out.length then setAll i ks (out.set k.toNat i) else none
def impl_paired.endd (lines : List S75) (i : Int) (s : PSt) : Option (Option PSt) :=
  if inB (lastI s.opn) lines.length ∧ inB (lastI s.opn) s.out.length then
    if (rd_T75 lines (lastI s.opn)).f0 = 5 then
      if 0 < s.loops.length ∧ s.loops.length ≤ s.stops.length ∧ 0 < s.rounds.length then
        (setAll i (s.stops.getD (s.loops.length - 1) []) ((s.out.set i.toNat (lastI s.opn)).set (lastI s.opn).toNat i)).bind fun out2 =>
          some (some { s with out := out2, opn := s.opn.take (s.opn.length - 1), loops := s.loops.take (s.loops.length - 1), stops := s.stops.take (s.loops.length - 1), rounds := s.rounds.take (s.rounds.length - 1) })
      else none
    else if lastI s.opn ∈ s.els then
      if inB (rd (s.out.set i.toNat (lastI s.opn)) (lastI s.opn)) s.out.length then some (some { s with out := (s.out.set i.toNat (lastI s.opn)).set (rd (s.out.set i.toNat (lastI s.opn)) (lastI s.opn)).toNat i, opn := s.opn.take (s.opn.length - 1) }) else none
    else some (some { s with out := (s.out.set i.toNat (lastI s.opn)).set (lastI s.opn).toNat i, opn := s.opn.take (s.opn.length - 1) })
  else none
def impl_paired.els (lines : List S75) (i : Int) (s : PSt) : Option (Option PSt) :=
  if inB (lastI s.opn) lines.length ∧ inB (lastI s.opn) s.out.length then
    if (rd_T75 lines (lastI s.opn)).f0 = 2 then
      if lastI s.opn ∈ s.els then some none
      else if s.els.length < 100000 then some (some { s with els := lastI s.opn :: s.els, out := s.out.set (lastI s.opn).toNat i }) else none
    else some none
  else none
def impl_paired.loop (i : Int) (l : S75) (s : PSt) : Option (Option PSt) :=
  if s.loops.length < 100000 ∧ s.stops.length < 100000 ∧ s.rounds.length < 100000 ∧ 0 < s.rounds.length then
    some (some { s with opn := s.opn ++ [i], loops := s.loops ++ [i], stops := s.stops ++ [[]], rounds := s.rounds ++ [wrap64 (lastI s.rounds * l.f4)] })
  else none
def impl_paired.stop (i : Int) (s : PSt) : Option (Option PSt) :=
  if s.loops.length ≤ s.stops.length ∧ (s.stops.getD (s.loops.length - 1) []).length < 100000 then
    some (some { s with stops := s.stops.set (s.loops.length - 1) (s.stops.getD (s.loops.length - 1) [] ++ [i]) })
  else none
def impl_paired.sw (lines : List S75) (i : Int) (l : S75) (s : PSt) : Option (Option PSt) :=
  if l.f0 = 2 then (if s.opn.length < 100000 then some (some { s with opn := s.opn ++ [i] }) else none)
  else if l.f0 = 5 then (if s.opn.length < 100000 then impl_paired.loop i l s else none)
  else if l.f0 = 3 then (if s.opn.length = 0 then some none else impl_paired.els lines i s)
  else if l.f0 = 4 then (if s.opn.length = 0 then some none else impl_paired.endd lines i s)
  else if l.f0 = 6 then (if s.loops.length = 0 then some none else impl_paired.stop i s)
  else some (some s)
def impl_paired.step (k : Nat) (a0 : Int) (lines : List S75) (i : Int) (l : S75) (s0 : PSt) : Option (Option PSt) :=
  if inB i s0.out.length then
    (impl_isLine.f k a0 l.f0 l.f1 l.f2 l.f3 l.f4).bind fun ok =>
    if ok = true then
      (impl_paired.sw lines i l { s0 with out := s0.out.set i.toNat i }).bind fun q => match q with
      | none => some none
      | some s => impl_paired.fin s
    else some none
  else none
def impl_paired.go (k : Nat) (a0 : Int) (lines : List S75) : List S75 → Int → PSt → Option (List Int × Bool)
  | [], _, s => some (s.out, decide (s.opn.length = 0))
  | l :: ls, i, s => (impl_paired.step k a0 lines i l s).bind fun q => match q with
    | none => some ([], false)
    | some s' => impl_paired.go k a0 lines ls (i + 1) s'
def impl_paired.f (k : Nat) (a0 : Int) (l1 : List S75) : Option (List Int × Bool) :=
  if l1.length < 100000 then impl_paired.go k a0 l1 l1 0 ⟨List.replicate l1.length 0, [], [], [], [1], []⟩ else none
set_option maxHeartbeats 4000000 in
set_option maxRecDepth 100000 in
theorem impl_paired.calls (k : Nat) (a0 : Int) (A1 : Option Addr) (c1 : Nat) (l1 : List S75) (r1 : List Int) (r2 : Bool) (w : World) (hr1 : Kd.C k75 w A1 l1.length l1) (hc1 : l1.length ≤ c1) (h : impl_paired.f k a0 l1 = some (r1, r2)) :
    Calls Try.prog 80 #[.int .i64 a0, .slice A1 l1.length c1] w fun e w' => ∃ v0_ : Value, e = .returned (.tuple #[v0_, .bool r2]) ∧ Kd.R (Kd.int .i64) 2 w' w.heap.size (fun _ => True) v0_ r1 ∧ Below w.heap.size w w' := by
  unfold impl_paired.f at h
  replace h := ifp h
  obtain ⟨hl, h⟩ := h
  have HL := Aside0.mk hl
  have H := Aside0.mk h
  have HR := Aside0.mk hr1
  have HB := Aside0.mk (Below.refl w.heap.size w)
  have hmk := print_make (P := Try.prog) 22 2 .i64 8 Try.underlying22 (by kernel_rfl) (by omega) l1.length (by omega)
  have hmm := @run_makeMap Try.prog
  clear h hr1 hl
  go_enter Try.func80, Try.ntmps80
  go_wp2
  go_loopg [7, 8, 9, 10, 26] l1.length (fun gk v7 v8 v9 v10 v26 wr => ∃ (i : Nat) (s : PSt) (inn : List Value), v26 = .int .i64 i ∧ i ≤ l1.length ∧ l1.length - i ≤ gk ∧ Aside0 (Bun wr w.heap.size (⟨.slice (some ⟨w.heap.size, 0, none⟩) l1.length l1.length, 2, nums .i64 (s.out)⟩ :: ⟨v7, 3, nums .i64 (s.opn)⟩ :: ⟨v8, 3, nums .i64 (s.loops)⟩ :: ⟨v9, 117, inn⟩ :: ⟨v10, 2, nums .i64 (s.rounds)⟩ :: innE 3 (inn) (s.stops))) ∧ Aside0 (inn.length = s.stops.length) ∧ Aside0 (MapB wr Try.prog 3 4 w.heap.size (w.heap.size + 1 + 1) s.els) ∧ Aside0 (Below w.heap.size w wr) ∧ Aside0 (impl_paired.go k a0 l1 (l1.drop i) i s = some (r1, r2)))
  case atStart =>
    as_aux_lemma =>
    have e1 : (w.alloc (.cells (madeCells #[.int .i64 0] l1.length) 2)).heap.size = w.heap.size + 1 := by simp
    have B1 := (Bun.nil w w.heap.size).push (y := (⟨.slice (some ⟨w.heap.size, 0, none⟩) l1.length l1.length, 2, nums .i64 (List.replicate l1.length 0)⟩ : Ent)) (below_alloc (Below.refl _ _) (.cells (madeCells #[.int .i64 0] l1.length) 2)) (by simpa [nums_length] using own_made w w.heap.size 2 .i64 l1.length (Nat.le_refl _) (by have := HL.out; omega)) (fun k hk => by cases hk; exact Nat.le_refl _)
    have hlit := own_lit (w.alloc (.cells (madeCells #[.int .i64 0] l1.length) 2)) w.heap.size 2 .i64 [1] (by simp) (by simp)
    rw [e1] at hlit
    have B2 := B1.push (y := (⟨.slice (some ⟨w.heap.size + 1, 0, none⟩) 1 1, 2, nums .i64 [1]⟩ : Ent)) (below_alloc (Below.refl _ _) (.cells #[.int .i64 1] 2)) hlit (fun k hk => by cases hk; simp)
    have B3 := B2.alloc (.map #[] 0)
    have B4 := ((B3.push (y := (⟨.slice none 0 0, 117, []⟩ : Ent)) (Below.refl _ _) (own_nil _ _ _ _) (fun k hk => by cases hk)).push (y := (⟨.slice none 0 0, 3, nums .i64 []⟩ : Ent)) (Below.refl _ _) (own_nil _ _ _ _) (fun k hk => by cases hk)).push (y := (⟨.slice none 0 0, 3, nums .i64 []⟩ : Ent)) (Below.refl _ _) (own_nil _ _ _ _) (fun k hk => by cases hk)
    refine ⟨0, ⟨List.replicate l1.length 0, [], [], [], [1], []⟩, [], rfl, Nat.zero_le _, by omega, ⟨?_⟩, ⟨rfl⟩, ⟨?_⟩, ⟨bst HB⟩, ⟨by simpa using H.out⟩⟩
    · exact B4.sub (fun n => match n with | 0 => 4 | 1 => 0 | 2 => 1 | 3 => 2 | 4 => 3 | n + 5 => n + 5) (fun a b h => by rcases a with _|_|_|_|_|a <;> rcases b with _|_|_|_|_|b <;> simp at h <;> first | rfl | omega) (fun n x h => by match n, h with | 0, h => exact h | 1, h => exact h | 2, h => exact h | 3, h => exact h | 4, h => exact h | n + 5, h => exact absurd h (by simp [innE]))
    · have h0 := MapB.made (P := Try.prog) (k := 3) (e := 4) (base := w.heap.size) ((w.alloc (.cells (madeCells #[.int .i64 0] l1.length) 2)).alloc (.cells #[.int .i64 1] 2)) (by simp; omega)
      simpa using h0
  case round =>
    clear H
    obtain ⟨i, s, inn, rfl, hi, hg, BN, HI, HM, HB, HG⟩ := hrel
    by_cases hlt : i < l1.length
    · have hltz : (i : Int) < (l1.length : Int) := by omega
      have hl5 : l1.length ≤ 9223372036854775807 := by have := HL.out; omega
      have H0 := HG.out
      rw [List.drop_eq_getElem_cons hlt] at H0
      obtain ⟨ad, e, hx0, hx1, hx2, hx3, hx4⟩ := at_T75 (Kd.C_below HR.out HB.out) (i : Int) (by omega) hltz
      cases e
      rw [Int.toNat_natCast] at hx0 hx1 hx2 hx3 hx4
      obtain ⟨L, hL⟩ : ∃ L, L = rd_T75 l1 (i : Int) := ⟨_, rfl⟩
      rw [← hL] at hx0 hx1 hx2 hx3 hx4
      have HL1 : l1[i] = L := by rw [hL]; simp [rd_T75, List.getD_eq_getElem?_getD, hlt]
      rw [HL1] at H0
      simp only [impl_paired.go] at H0
      obtain ⟨q, hq, H1⟩ := Option.bind_eq_some_iff.mp H0
      unfold impl_paired.step at hq
      replace hq := ifp hq
      obtain ⟨hib, hq⟩ := hq
      obtain ⟨ok, hok, hq⟩ := Option.bind_eq_some_iff.mp hq
      have HOK := Aside0.mk hok
      have HQ := Aside0.mk hq
      have H1' := Aside0.mk H1
      have hibl : i < s.out.length := by have := hib.2; omega
      have hlen : s.out.length = l1.length := by have := (BN.out.len (i := 0) rfl).1; rwa [nums_length] at this
      have HLEN := Aside0.mk hlen
      clear HL1 hL H0 H1 hok hq hib hlen
      go_upto_if 38 with (first | ((with_reducible refine gate_store (t := 75) (p := 13) rfl ?_); refine store_event (t := 75) (p := 13) (v := ?vo_w2) (w1 := ((((((wr.alloc (.cells #[.int .i64 0, .int .i64 0, .int .i64 0, .int .i64 0, .int .i64 0] 75)).setCell ⟨wr.heap.size, 0, none⟩ (.int .i64 L.f0)).setCell ⟨wr.heap.size, 1, none⟩ (.int .i64 L.f1)).setCell ⟨wr.heap.size, 2, none⟩ (.int .i64 L.f2)).setCell ⟨wr.heap.size, 3, none⟩ (.int .i64 L.f3)).setCell ⟨wr.heap.size, 4, none⟩ (.int .i64 L.f4))) ?hgw2 ?how2 ?hnw2 ?hrw2 ?_; (case how2 => rfl); (case hgw2 => rfl); (case hnw2 => rfl); (case hrw2 => first | (go_simp; done) | (go_simp; rfl)); intro w2 hw; have hbx := box5 wr 75 (.int .i64 0) (.int .i64 0) (.int .i64 0) (.int .i64 0) (.int .i64 0) (.int .i64 L.f0) (.int .i64 L.f1) (.int .i64 L.f2) (.int .i64 L.f3) (.int .i64 L.f4); rw [← hw] at hbx; obtain ⟨hb2, hx2⟩ := hbx; have BX := Aside0.mk hx2; clear hx2 hw; have n0_ := Aside0.mk (BN.out.below hb2); have n1_ := Aside0.mk (HM.out.below hb2); have n2_ := Aside0.mk (below_step HB.out hb2); clear BN; clear HM; clear HB; have BN := n0_; have HM := n1_; have HB := n2_; clear n0_ n1_ n2_; clear hb2; obtain ⟨hc6, hf6⟩ := BN.out.getN (i := 0) rfl i hibl) | ((with_reducible refine gate_store (t := 2) (p := 34) rfl ?_); refine store_event (t := 2) (p := 34) (v := ?vo_w3) (w1 := w2.setCell ⟨w.heap.size, i, none⟩ (.int .i64 i)) ?hgw3 ?how3 ?hnw3 ?hrw3 ?_; (case how3 => rfl); (case hgw3 => rfl); (case hnw3 => rfl); (case hrw3 => first | (go_simp; done) | (go_simp; rfl)); intro w3 hw; obtain ⟨hp1, hp2, hp3⟩ := BN.out.put (i := 0) rfl i (i : Int); rw [← hw] at hp1 hp2; have hne := BN.out.neBlk (i := 0) rfl BX.out (show (2 : Nat) ≠ 75 by decide); clear hc6 hf6 hw; have n0_ := Aside0.mk (blk_grown BX.out hp2 hne); have n1_ := Aside0.mk (HM.out.grown hp2 (HM.out.ne BN.out (i := 0) rfl)); have n2_ := Aside0.mk (show Bun w3 w.heap.size (⟨.slice (some ⟨w.heap.size, 0, none⟩) l1.length l1.length, 2, nums .i64 (s.out.set i (i : Int))⟩ :: ⟨u7, 3, nums .i64 (s.opn)⟩ :: ⟨u8, 3, nums .i64 (s.loops)⟩ :: ⟨u9, 117, inn⟩ :: ⟨u10, 2, nums .i64 (s.rounds)⟩ :: innE 3 (inn) (s.stops)) from hp1); have n3_ := Aside0.mk (HB.out.grown hp2 HB.out.size (fun k e => by cases e; exact hp3)); clear BX; clear HM; clear BN; clear HB; have BX := n0_; have HM := n1_; have BN := n2_; have HB := n3_; clear n0_ n1_ n2_ n3_; clear hp1 hp2 hp3 hne; have hk0 : w3.cell? ⟨wr.heap.size, 0, none⟩ = some (.int .i64 L.f0) := (blk_cell BX.out 0).trans rfl; have hk1 : w3.cell? ⟨wr.heap.size, 1, none⟩ = some (.int .i64 L.f1) := (blk_cell BX.out 1).trans rfl; have hk2 : w3.cell? ⟨wr.heap.size, 2, none⟩ = some (.int .i64 L.f2) := (blk_cell BX.out 2).trans rfl; have hk3 : w3.cell? ⟨wr.heap.size, 3, none⟩ = some (.int .i64 L.f3) := (blk_cell BX.out 3).trans rfl; have hk4 : w3.cell? ⟨wr.heap.size, 4, none⟩ = some (.int .i64 L.f4) := (blk_cell BX.out 4).trans rfl) | (go_at_call 116; refine (impl_isLine.calls k a0 L.f0 L.f1 L.f2 L.f3 L.f4 ok _ HOK.out).mono ?_; rintro e w4 ⟨rfl, hb4⟩; clear hk0 hk1 hk2 hk3 hk4; have n0_ := Aside0.mk (BN.out.below hb4); have n1_ := Aside0.mk (HM.out.below hb4); have n2_ := Aside0.mk (below_step HB.out hb4); have n3_ := Aside0.mk (blk_below BX.out hb4); clear BN; clear HM; clear HB; clear BX; have BN := n0_; have HM := n1_; have HB := n2_; have BX := n3_; clear n0_ n1_ n2_ n3_; clear hb4))
      clear hx0 hx1 hx2 hx3 hx4
      cases ok with
      | false =>
        have hq := HQ.out
        rw [if_neg (by decide)] at hq
        obtain rfl := Option.some.inj hq
        have h1 := H1'.out
        simp only [Option.some.injEq, Prod.mk.injEq] at h1
        obtain ⟨rfl, rfl⟩ := h1
        clear hq
        go_wp2_with fail
        go_ret2
        exact ⟨_, rfl, Kd.R_nil _ _ _ _ _, HB.out⟩
      | true =>
        have hq := HQ.out
        rw [if_pos rfl] at hq
        obtain ⟨q1, hq1, hq⟩ := Option.bind_eq_some_iff.mp hq
        obtain ⟨s1, hs1⟩ : ∃ s1 : PSt, s1 = { s with out := s.out.set (i : Int).toNat (i : Int) } := ⟨_, rfl⟩
        rw [← hs1] at hq1
        replace BN : Aside0 (Bun w4 w.heap.size (⟨.slice (some ⟨w.heap.size, 0, none⟩) l1.length l1.length, 2, nums .i64 (s1.out)⟩ :: ⟨u7, 3, nums .i64 (s1.opn)⟩ :: ⟨u8, 3, nums .i64 (s1.loops)⟩ :: ⟨u9, 117, inn⟩ :: ⟨u10, 2, nums .i64 (s1.rounds)⟩ :: innE 3 (inn) (s1.stops))) := ⟨by rw [hs1]; exact BN.out⟩
        replace HI : Aside0 (inn.length = s1.stops.length) := ⟨by rw [hs1]; exact HI.out⟩
        replace HM : Aside0 (MapB w4 Try.prog 3 4 w.heap.size (w.heap.size + 1 + 1) s1.els) := ⟨by rw [hs1]; exact HM.out⟩
        have HQ1 := Aside0.mk hq1
        have HQ2 := Aside0.mk hq
        clear hq1 hq hs1 HQ HG HOK HLEN
        have hk0 : w4.cell? ⟨wr.heap.size, 0, none⟩ = some (.int .i64 L.f0) := (blk_cell BX.out 0).trans rfl
        have hk4 : w4.cell? ⟨wr.heap.size, 4, none⟩ = some (.int .i64 L.f4) := (blk_cell BX.out 4).trans rfl
        have hol : s1.opn.length ≤ 9223372036854775807 := by obtain ⟨A, c, e⟩ := BN.out.form (i := 1) rfl; have := BN.out.row (i := 1) rfl; rw [nums_length] at this; exact own_max this
        obtain ⟨A7, c7, e7⟩ := BN.out.form (i := 1) rfl
        obtain ⟨A8, c8, e8⟩ := BN.out.form (i := 2) rfl
        obtain ⟨A9, c9, e9⟩ := BN.out.form (i := 3) rfl
        obtain ⟨A10, c10, e10⟩ := BN.out.form (i := 4) rfl
        simp only [nums_length] at e7 e8 e9 e10
        subst e7 e8 e9 e10
        go_upto_block 2 with (fail)
        go_cut [7, 8, 9, 10] (fun v7 v8 v9 v10 wc => ∃ (s2 : PSt) (inn : List Value), Aside0 (q1 = some s2) ∧ Aside0 (Bun wc w.heap.size (⟨.slice (some ⟨w.heap.size, 0, none⟩) l1.length l1.length, 2, nums .i64 (s2.out)⟩ :: ⟨v7, 3, nums .i64 (s2.opn)⟩ :: ⟨v8, 3, nums .i64 (s2.loops)⟩ :: ⟨v9, 117, inn⟩ :: ⟨v10, 2, nums .i64 (s2.rounds)⟩ :: innE 3 (inn) (s2.stops))) ∧ Aside0 (inn.length = s2.stops.length) ∧ Aside0 (MapB wc Try.prog 3 4 w.heap.size (w.heap.size + 1 + 1) s2.els) ∧ Aside0 (Below w.heap.size w wc))
        case first =>
          by_cases k2 : L.f0 = 2
          · have h := HQ1.out
            unfold impl_paired.sw at h
            rw [if_pos k2] at h
            replace h := ifp h
            obtain ⟨hop, h⟩ := h
            have HQ3 := Aside0.mk (Option.some.inj h)
            have HOP := Aside0.mk hop
            have b2 : (L.f0 == 2) = true := beq_iff_eq.2 k2
            have b5 : (L.f0 == 5) = false := by rw [k2]; rfl
            clear h k2 hop
            go_wp2_with (first | ((with_reducible refine gate_builtin (b := .append) (xs := #[.tmp 47, .tmp 49]) rfl ?_); at_builtin; refine print_append_num (w0 := w) (W := w4) w.heap.size rfl (.tmp 47) (.tmp 49) 117 3 .i64 8 rfl Try.underlying117 (by kernel_rfl) (by omega) (.slice A7 s1.opn.length c7) (s1.opn) ((i : Int)) rfl rfl (BN.out.rown (i := 1) rfl) HB.out HB.out.size (by have := HOP.out; omega) ?_; intro x7 w5 ho hB hg hat; have hne := BN.out.neBlk (i := 1) rfl BX.out (show (3 : Nat) ≠ 75 by decide); have hbx := blk_grown BX.out hg hne; clear BX; have BX := Aside0.mk hbx; clear hbx hne; have n0_ := Aside0.mk (HM.out.grown hg (HM.out.ne BN.out (i := 1) rfl)); have n1_ := Aside0.mk (show Bun w5 w.heap.size (⟨.slice (some ⟨w.heap.size, 0, none⟩) l1.length l1.length, 2, nums .i64 (s1.out)⟩ :: ⟨x7, 3, nums .i64 (s1.opn ++ [(i : Int)])⟩ :: ⟨.slice A8 s1.loops.length c8, 3, nums .i64 (s1.loops)⟩ :: ⟨.slice A9 inn.length c9, 117, inn⟩ :: ⟨.slice A10 s1.rounds.length c10, 2, nums .i64 (s1.rounds)⟩ :: innE 3 (inn) (s1.stops)) from BN.out.set (i := 1) (y := ⟨x7, 3, nums .i64 (s1.opn ++ [(i : Int)])⟩) rfl hg (by rw [nums_length]; exact ho) hat); have n2_ := Aside0.mk (hB); clear HM; clear BN; clear HB; have HM := n0_; have BN := n1_; have HB := n2_; clear n0_ n1_ n2_; clear hg hat; clear ho hk0 hk4; have hk0 : w5.cell? ⟨wr.heap.size, 0, none⟩ = some (.int .i64 L.f0) := (blk_cell BX.out 0).trans rfl; have hk4 : w5.cell? ⟨wr.heap.size, 4, none⟩ = some (.int .i64 L.f4) := (blk_cell BX.out 4).trans rfl))
            go_meet
            case rel => exact ⟨_, inn, ⟨HQ3.out.symm⟩, BN, HI, HM, HB⟩
          · by_cases k5 : L.f0 = 5
            · have h := HQ1.out
              unfold impl_paired.sw at h
              rw [if_neg k2, if_pos k5] at h
              replace h := ifp h
              obtain ⟨hop, h⟩ := h
              unfold impl_paired.loop at h
              replace h := ifp h
              obtain ⟨⟨hlo, hst, hro, hr0⟩, h⟩ := h
              have HQ3 := Aside0.mk (Option.some.inj h)
              have HOP := Aside0.mk hop
              have HLO := Aside0.mk hlo
              have H9 := Aside0.mk (show inn.length < 100000 by rw [HI.out]; exact hst)
              have HRO := Aside0.mk hro
              have H10 := Aside0.mk hr0
              obtain ⟨g10, f10, hg10, hg10l⟩ := BN.out.form1 (i := 4) rfl hr0
              subst f10
              have hrl : s1.rounds.length ≤ 9223372036854775807 := by omega
              have b2 : (L.f0 == 2) = false := beq_eq_false_iff_ne.2 k2
              have b5 : (L.f0 == 5) = true := beq_iff_eq.2 k5
              have HG10 := Aside0.mk hg10
              clear h k2 k5 hop hlo hst hro hg10 hg10l
              go_wp2_with (first | ((with_reducible refine gate_builtin (b := .append) (xs := #[.tmp 47, .tmp 49]) rfl ?_); at_builtin; refine print_append_num (w0 := w) (W := w4) w.heap.size rfl (.tmp 47) (.tmp 49) 117 3 .i64 8 rfl Try.underlying117 (by kernel_rfl) (by omega) (.slice A7 s1.opn.length c7) (s1.opn) ((i : Int)) rfl rfl (BN.out.rown (i := 1) rfl) HB.out HB.out.size (by have := HOP.out; omega) ?_; intro x7 w5 ho hB hg hat; have hne := BN.out.neBlk (i := 1) rfl BX.out (show (3 : Nat) ≠ 75 by decide); have hbx := blk_grown BX.out hg hne; clear BX; have BX := Aside0.mk hbx; clear hbx hne; have n0_ := Aside0.mk (HM.out.grown hg (HM.out.ne BN.out (i := 1) rfl)); have n1_ := Aside0.mk (show Bun w5 w.heap.size (⟨.slice (some ⟨w.heap.size, 0, none⟩) l1.length l1.length, 2, nums .i64 (s1.out)⟩ :: ⟨x7, 3, nums .i64 (s1.opn ++ [(i : Int)])⟩ :: ⟨.slice A8 s1.loops.length c8, 3, nums .i64 (s1.loops)⟩ :: ⟨.slice A9 inn.length c9, 117, inn⟩ :: ⟨.slice (some ⟨g10, 0, none⟩) s1.rounds.length c10, 2, nums .i64 (s1.rounds)⟩ :: innE 3 (inn) (s1.stops)) from BN.out.set (i := 1) (y := ⟨x7, 3, nums .i64 (s1.opn ++ [(i : Int)])⟩) rfl hg (by rw [nums_length]; exact ho) hat); have n2_ := Aside0.mk (hB); clear HM; clear BN; clear HB; have HM := n0_; have BN := n1_; have HB := n2_; clear n0_ n1_ n2_; clear hg hat; clear ho hk0 hk4; have hk0 : w5.cell? ⟨wr.heap.size, 0, none⟩ = some (.int .i64 L.f0) := (blk_cell BX.out 0).trans rfl; have hk4 : w5.cell? ⟨wr.heap.size, 4, none⟩ = some (.int .i64 L.f4) := (blk_cell BX.out 4).trans rfl) | ((with_reducible refine gate_builtin (b := .append) (xs := #[.tmp 54, .tmp 56]) rfl ?_); at_builtin; refine print_append_num (w0 := w) (W := w5) w.heap.size rfl (.tmp 54) (.tmp 56) 117 3 .i64 8 rfl Try.underlying117 (by kernel_rfl) (by omega) (.slice A8 s1.loops.length c8) (s1.loops) ((i : Int)) rfl rfl (BN.out.rown (i := 2) rfl) HB.out HB.out.size (by have := HLO.out; omega) ?_; intro x8 w6 ho hB hg hat; have hne := BN.out.neBlk (i := 2) rfl BX.out (show (3 : Nat) ≠ 75 by decide); have hbx := blk_grown BX.out hg hne; clear BX; have BX := Aside0.mk hbx; clear hbx hne; have n0_ := Aside0.mk (HM.out.grown hg (HM.out.ne BN.out (i := 2) rfl)); have n1_ := Aside0.mk (show Bun w6 w.heap.size (⟨.slice (some ⟨w.heap.size, 0, none⟩) l1.length l1.length, 2, nums .i64 (s1.out)⟩ :: ⟨x7, 3, nums .i64 (s1.opn ++ [(i : Int)])⟩ :: ⟨x8, 3, nums .i64 (s1.loops ++ [(i : Int)])⟩ :: ⟨.slice A9 inn.length c9, 117, inn⟩ :: ⟨.slice (some ⟨g10, 0, none⟩) s1.rounds.length c10, 2, nums .i64 (s1.rounds)⟩ :: innE 3 (inn) (s1.stops)) from BN.out.set (i := 2) (y := ⟨x8, 3, nums .i64 (s1.loops ++ [(i : Int)])⟩) rfl hg (by rw [nums_length]; exact ho) hat); have n2_ := Aside0.mk (hB); clear HM; clear BN; clear HB; have HM := n0_; have BN := n1_; have HB := n2_; clear n0_ n1_ n2_; clear hg hat; clear ho hk0 hk4; have hk0 : w6.cell? ⟨wr.heap.size, 0, none⟩ = some (.int .i64 L.f0) := (blk_cell BX.out 0).trans rfl; have hk4 : w6.cell? ⟨wr.heap.size, 4, none⟩ = some (.int .i64 L.f4) := (blk_cell BX.out 4).trans rfl) | ((with_reducible refine gate_builtin (b := .append) (xs := #[.tmp 58, .tmp 59]) rfl ?_); at_builtin; go_must (refine print_append (w0 := w) (W := w6) w.heap.size rfl (.tmp 58) (.tmp 59) 118 117 (.slice none 0 0) 24 rfl Try.underlying118 (by kernel_rfl) rfl (by omega) (.slice A9 inn.length c9) inn (.slice none 0 0) rfl rfl rfl (BN.out.row (i := 3) rfl) HB.out HB.out.size (by have := H9.out; omega) ?_; intro x9 w7 ho hB hg hat; have hne := BN.out.neBlk (i := 3) rfl BX.out (show (117 : Nat) ≠ 75 by decide); have hbx := blk_grown BX.out hg hne; clear BX; have BX := Aside0.mk hbx; clear hbx hne; have hz := (show Bun w7 w.heap.size (⟨.slice (some ⟨w.heap.size, 0, none⟩) l1.length l1.length, 2, nums .i64 (s1.out)⟩ :: ⟨x7, 3, nums .i64 (s1.opn ++ [(i : Int)])⟩ :: ⟨x8, 3, nums .i64 (s1.loops ++ [(i : Int)])⟩ :: ⟨x9, 117, inn ++ [.slice none 0 0]⟩ :: ⟨.slice (some ⟨g10, 0, none⟩) s1.rounds.length c10, 2, nums .i64 (s1.rounds)⟩ :: innE 3 (inn) (s1.stops)) from BN.out.set (i := 3) (y := (⟨x9, 117, inn ++ [Value.slice none 0 0]⟩ : Ent)) rfl hg ho hat).snocNil 3; simp only [List.cons_append] at hz; have hz1 := (innE_snoc (e := 3) HI.out (.slice none 0 0) []).symm; have n0_ := Aside0.mk (HM.out.grown hg (HM.out.ne BN.out (i := 3) rfl)); have n1_ := Aside0.mk (show Bun w7 w.heap.size (⟨.slice (some ⟨w.heap.size, 0, none⟩) l1.length l1.length, 2, nums .i64 (s1.out)⟩ :: ⟨x7, 3, nums .i64 (s1.opn ++ [(i : Int)])⟩ :: ⟨x8, 3, nums .i64 (s1.loops ++ [(i : Int)])⟩ :: ⟨x9, 117, inn ++ [.slice none 0 0]⟩ :: ⟨.slice (some ⟨g10, 0, none⟩) s1.rounds.length c10, 2, nums .i64 (s1.rounds)⟩ :: innE 3 (inn ++ [.slice none 0 0]) (s1.stops ++ [[]])) by rw [hz1]; exact hz); have n2_ := Aside0.mk (hB); clear HM; clear BN; clear HB; have HM := n0_; have BN := n1_; have HB := n2_; clear n0_ n1_ n2_; clear hg hat hz hz1 ho hk0 hk4; have hk0 : w7.cell? ⟨wr.heap.size, 0, none⟩ = some (.int .i64 L.f0) := (blk_cell BX.out 0).trans rfl; have hk4 : w7.cell? ⟨wr.heap.size, 4, none⟩ = some (.int .i64 L.f4) := (blk_cell BX.out 4).trans rfl; obtain ⟨hcr, _⟩ := BN.out.getN (i := 4) rfl (s1.rounds.length - 1) (by have := H10.out; omega))))
              have hw1 : IntKind.i64.wrap ((s1.rounds.length : Int) - 1) = (s1.rounds.length : Int) - 1 := by rw [i64_w]; unfold wrap64; omega
              have hw2 : (1 : Int) ≤ (s1.rounds.length : Int) := by omega
              have hw3 : (0 : Int) ≤ (s1.rounds.length : Int) - 1 := by omega
              have hw4 : (s1.rounds.length : Int) - 1 < (s1.rounds.length : Int) := by omega
              have hw5 : ((s1.rounds.length : Int) - 1).toNat = s1.rounds.length - 1 := by omega
              obtain ⟨lr, hlr⟩ : ∃ lr, lr = lastI s1.rounds := ⟨_, rfl⟩
              replace hcr : w7.cell? ⟨g10, s1.rounds.length - 1, none⟩ = some (.int .i64 lr) := by rw [hlr]; exact hcr
              have HLR := Aside0.mk hlr
              clear hlr
              have hinf : (Try.prog.info? 2).map (fun i => (i.zero, i.size, i.bytes)) = some (some (.int .i64 0), 1, 8) := by kernel_rfl
              obtain ⟨i0, hi0, hz0, hz1, hz2⟩ := info_parts hinf
              clear hinf
              go_region_law ((refine step_append_lies _ (by rfl) (.tmp 61) (.tmp 71) 22 (by rfl) w.heap.size 2 i0 _ 1 8 Try.underlying22 hi0 hz0 hz1 hz2 rfl (by omega) (.slice (some ⟨g10, 0, none⟩) s1.rounds.length c10) s1.rounds.length (nums .i64 s1.rounds) (by rfl) ((BN.out.rown (i := 4) rfl).alloc _).drew ⟨w7.heap.size, 0, none⟩ 1 1 [.int .i64 (IntKind.i64.wrap (lr * L.f4))] (by rfl) (by rfl) (World.news_of_block (cs := #[.int .i64 (IntKind.i64.wrap (lr * L.f4))]) (t := 2) (fr := (0, 0)) (heap_alloc_new w7 _)) (by simp [Value.oneCell']) (by omega) (by have := HRO.out; unfold maxLen; omega) (by have := HRO.out; omega) (by have := HB.out.size; simp; omega) (w7.heap.size + 1) (by simp) ?_; intro gg cap w8 ho hg hat hlt8))
              all_goals
               rw [i64_w] at ho hg
               have hbd := below_drew1 (below_alloc (Below.refl w7.heap.size w7) (.cells #[.int .i64 (wrap64 (lr * L.f4))] 2))
               have n0_ := Aside0.mk (show Bun w8 w.heap.size (⟨.slice (some ⟨w.heap.size, 0, none⟩) l1.length l1.length, 2, nums .i64 (s1.out)⟩ :: ⟨x7, 3, nums .i64 (s1.opn ++ [(i : Int)])⟩ :: ⟨x8, 3, nums .i64 (s1.loops ++ [(i : Int)])⟩ :: ⟨x9, 117, inn ++ [.slice none 0 0]⟩ :: ⟨.slice (some ⟨gg, 0, none⟩) (s1.rounds.length + 1) cap, 2, nums .i64 (s1.rounds ++ [wrap64 (lr * L.f4)])⟩ :: innE 3 (inn ++ [.slice none 0 0]) (s1.stops ++ [[]])) from (BN.out.below hbd).set (i := 4) (y := (⟨.slice (some ⟨gg, 0, none⟩) (s1.rounds.length + 1) cap, 2, nums .i64 (s1.rounds ++ [wrap64 (lr * L.f4)])⟩ : Ent)) rfl hg (by rw [nums_length, nums_append]; simpa [nums] using ho) (hat.imp (fun h => h.symm) (fun h => ⟨gg, rfl, by rw [h]; simp⟩)))
               have n1_ := Aside0.mk ((HM.out.below hbd).grown hg ((HM.out.below hbd).ne (BN.out.below hbd) (i := 4) rfl))
               have n2_ := Aside0.mk ((below_step HB.out hbd).grown hg (below_step HB.out hbd).size (fun k e => by cases e; exact HG10.out))
               clear BN HM HB BX ho hg hat hlt8 hbd hk0 hk4 hcr
               have BN := n0_
               have HM := n1_
               have HB := n2_
               clear n0_ n1_ n2_
               go_wp2
               go_meet
               case rel => exact ⟨_, inn ++ [.slice none 0 0], ⟨HQ3.out.symm⟩, ⟨by rw [HLR.out] at BN; exact BN.out⟩, ⟨by simp [HI.out]⟩, HM, HB⟩
            · have b2 : (L.f0 == 2) = false := beq_eq_false_iff_ne.2 k2
              have b5 : (L.f0 == 5) = false := beq_eq_false_iff_ne.2 k5
              have h := HQ1.out
              unfold impl_paired.sw at h
              rw [if_neg k2, if_neg k5] at h
              clear k2 k5
              by_cases k3 : L.f0 = 3
              · as_aux_lemma =>
                rw [if_pos k3] at h
                have b3 : (L.f0 == 3) = true := beq_iff_eq.2 k3
                clear k3
                by_cases ko : s1.opn.length = 0
                · as_aux_lemma =>
                  rw [if_pos ko] at h
                  have HQN := Aside0.mk (Option.some.inj h)
                  have hqn := HQ2.out
                  rw [← HQN.out] at hqn
                  obtain rfl := Option.some.inj hqn
                  have h1 := H1'.out
                  simp only [Option.some.injEq, Prod.mk.injEq] at h1
                  obtain ⟨rfl, rfl⟩ := h1
                  clear hqn
                  have ho1 : (s1.opn.length : Int) - 1 < 0 := by omega
                  clear h ko
                  go_wp2
                  go_ret2
                  exact ⟨_, rfl, Kd.R_nil _ _ _ _ _, HB.out⟩
                · as_aux_lemma =>
                  rw [if_neg ko] at h
                  unfold impl_paired.els at h
                  replace h := ifp h
                  obtain ⟨⟨⟨ho0, hol1⟩, ⟨_, hol2⟩⟩, h⟩ := h
                  obtain ⟨g7, f7, hg7, hg7l⟩ := BN.out.form1 (i := 1) rfl (Nat.pos_of_ne_zero ko)
                  subst f7
                  obtain ⟨hco, _⟩ := BN.out.getN (i := 1) rfl (s1.opn.length - 1) (by omega)
                  obtain ⟨o, hoo⟩ : ∃ o, o = lastI s1.opn := ⟨_, rfl⟩
                  replace hco : w4.cell? ⟨g7, s1.opn.length - 1, none⟩ = some (.int .i64 o) := by rw [hoo]; exact hco
                  rw [← hoo] at ho0 hol1 hol2 h
                  have HOO := Aside0.mk hoo
                  clear hoo
                  have hop1 : 1 ≤ s1.opn.length := Nat.pos_of_ne_zero ko
                  clear ko
                  obtain ⟨ad', e', hxo, _⟩ := at_T75 (Kd.C_below HR.out HB.out) o ho0 hol1
                  cases e'
                  obtain ⟨lf, hlf⟩ : ∃ lf, lf = (rd_T75 l1 o).f0 := ⟨_, rfl⟩
                  rw [← hlf] at hxo h
                  have HLF := Aside0.mk hlf
                  clear hlf
                  have hlen : s1.out.length = l1.length := by have := (BN.out.len (i := 0) rfl).1; rwa [nums_length] at this
                  by_cases k6 : lf = 2
                  · as_aux_lemma =>
                    rw [if_pos k6] at h
                    have bl : (lf != 2) = false := by rw [k6]; rfl
                    clear k6
                    have hlook := MapB.look (t := 119) HM.out Try.underlying3 Try.underlying119 Try.underlying4 (by kernel_rfl) o (WalkArith.wf_i64 (by omega))
                    by_cases ke : o ∈ s1.els
                    · as_aux_lemma =>
                      rw [if_pos ke] at h
                      have HQN := Aside0.mk (Option.some.inj h)
                      have hqn := HQ2.out
                      rw [← HQN.out] at hqn
                      obtain rfl := Option.some.inj hqn
                      have h1 := H1'.out
                      simp only [Option.some.injEq, Prod.mk.injEq] at h1
                      obtain ⟨rfl, rfl⟩ := h1
                      clear hqn
                      rw [decide_eq_true ke] at hlook
                      clear h ke hlen
                      go_wp2
                      go_ret2
                      exact ⟨_, rfl, Kd.R_nil _ _ _ _ _, HB.out⟩
                    · as_aux_lemma =>
                      rw [if_neg ke] at h
                      replace h := ifp h
                      obtain ⟨hel, h⟩ := h
                      have HEL := Aside0.mk hel
                      have HQ3 := Aside0.mk (Option.some.inj h)
                      rw [decide_eq_false ke] at hlook
                      clear h ke hel
                      go_wp2_with (first | (at_mapUpdate; refine MapB.update (t := 119) HM.out rfl _ _ _ rfl Try.underlying3 Try.underlying119 Try.underlying4 rfl o rfl rfl (WalkArith.wf_i64 (by omega)) (by have := HEL.out; omega) ?_; intro w5 hm5 hg5; have n0_ := Aside0.mk (BN.out.other hg5 (fun i x hx => (HM.out.ne BN.out hx))); have n1_ := Aside0.mk (hm5); have n2_ := Aside0.mk (HB.out.grown hg5 HB.out.size (fun k e => by injection e with e; omega)); clear BN; clear HM; clear HB; have BN := n0_; have HM := n1_; have HB := n2_; clear n0_ n1_ n2_; clear hm5 hg5 hlook; have hk7 := (BN.out.getN (i := 1) rfl (s1.opn.length - 1) (by omega)).1; replace hco : w5.cell? ⟨g7, s1.opn.length - 1, none⟩ = some (.int .i64 o) := (by rw [HOO.out]; exact hk7); clear hk7; obtain ⟨hcs, hfs⟩ := BN.out.getN (i := 0) rfl o.toNat (by omega)) | ((with_reducible refine gate_store (t := 2) (p := 107) rfl ?_); refine store_event (t := 2) (p := 107) (v := ?vo_w63) (w1 := w5.setCell ⟨w.heap.size, o.toNat, none⟩ (.int .i64 i)) ?hgw63 ?how63 ?hnw63 ?hrw63 ?_; (case how63 => rfl); (case hgw63 => rfl); (case hnw63 => rfl); (case hrw63 => first | (go_simp; done) | (go_simp; rfl)); intro w63 hw; obtain ⟨hp1, hp2, hp3⟩ := BN.out.put (i := 0) rfl o.toNat (i : Int); rw [← hw] at hp1 hp2; clear hcs hfs hw hco; have n0_ := Aside0.mk (HM.out.grown hp2 (HM.out.ne BN.out (i := 0) rfl)); have n1_ := Aside0.mk (show Bun w63 w.heap.size (⟨.slice (some ⟨w.heap.size, 0, none⟩) l1.length l1.length, 2, nums .i64 (s1.out.set o.toNat (i : Int))⟩ :: ⟨.slice (some ⟨g7, 0, none⟩) s1.opn.length c7, 3, nums .i64 (s1.opn)⟩ :: ⟨.slice A8 s1.loops.length c8, 3, nums .i64 (s1.loops)⟩ :: ⟨.slice A9 inn.length c9, 117, inn⟩ :: ⟨.slice A10 s1.rounds.length c10, 2, nums .i64 (s1.rounds)⟩ :: innE 3 (inn) (s1.stops)) from hp1); have n2_ := Aside0.mk (HB.out.grown hp2 HB.out.size (fun k e => by cases e; exact hp3)); clear HM; clear BN; clear HB; have HM := n0_; have BN := n1_; have HB := n2_; clear n0_ n1_ n2_; clear hp1 hp2 hp3))
                      go_meet
                      case rel => exact ⟨_, inn, ⟨HQ3.out.symm⟩, BN, HI, HM, HB⟩
                  · as_aux_lemma =>
                    rw [if_neg k6] at h
                    have HQN := Aside0.mk (Option.some.inj h)
                    have hqn := HQ2.out
                    rw [← HQN.out] at hqn
                    obtain rfl := Option.some.inj hqn
                    have h1 := H1'.out
                    simp only [Option.some.injEq, Prod.mk.injEq] at h1
                    obtain ⟨rfl, rfl⟩ := h1
                    clear hqn
                    have bl : (lf != 2) = true := by rw [bne_iff_ne]; exact k6
                    clear h k6 hlen
                    go_wp2
                    go_ret2
                    exact ⟨_, rfl, Kd.R_nil _ _ _ _ _, HB.out⟩
              · as_aux_lemma =>
                rw [if_neg k3] at h
                have b3 : (L.f0 == 3) = false := beq_eq_false_iff_ne.2 k3
                clear k3
                by_cases k4 : L.f0 = 4
                · as_aux_lemma =>
                  rw [if_pos k4] at h
                  have b4 : (L.f0 == 4) = true := beq_iff_eq.2 k4
                  clear k4
                  by_cases ko : s1.opn.length = 0
                  · as_aux_lemma =>
                    rw [if_pos ko] at h
                    have HQN := Aside0.mk (Option.some.inj h)
                    have hqn := HQ2.out
                    rw [← HQN.out] at hqn
                    obtain rfl := Option.some.inj hqn
                    have h1 := H1'.out
                    simp only [Option.some.injEq, Prod.mk.injEq] at h1
                    obtain ⟨rfl, rfl⟩ := h1
                    clear hqn
                    have ho1 : (s1.opn.length : Int) - 1 < 0 := by omega
                    clear h ko
                    go_wp2
                    go_ret2
                    exact ⟨_, rfl, Kd.R_nil _ _ _ _ _, HB.out⟩
                  · as_aux_lemma =>
                    rw [if_neg ko] at h
                    unfold impl_paired.endd at h
                    replace h := ifp h
                    obtain ⟨⟨⟨ho0, hol1⟩, ⟨_, hol2⟩⟩, h⟩ := h
                    obtain ⟨g7, f7, hg7, hg7l⟩ := BN.out.form1 (i := 1) rfl (Nat.pos_of_ne_zero ko)
                    subst f7
                    obtain ⟨hco, _⟩ := BN.out.getN (i := 1) rfl (s1.opn.length - 1) (by omega)
                    obtain ⟨o, hoo⟩ : ∃ o, o = lastI s1.opn := ⟨_, rfl⟩
                    replace hco : w4.cell? ⟨g7, s1.opn.length - 1, none⟩ = some (.int .i64 o) := by rw [hoo]; exact hco
                    rw [← hoo] at ho0 hol1 hol2 h
                    have HOO := Aside0.mk hoo
                    clear hoo
                    have hop1 : 1 ≤ s1.opn.length := Nat.pos_of_ne_zero ko
                    clear ko
                    obtain ⟨ad', e', hxo, _⟩ := at_T75 (Kd.C_below HR.out HB.out) o ho0 hol1
                    cases e'
                    obtain ⟨lf, hlf⟩ : ∃ lf, lf = (rd_T75 l1 o).f0 := ⟨_, rfl⟩
                    rw [← hlf] at hxo h
                    have HLF := Aside0.mk hlf
                    clear hlf
                    have hlen : s1.out.length = l1.length := by have := (BN.out.len (i := 0) rfl).1; rwa [nums_length] at this
                    have hibl2 : i < s1.out.length := by omega
                    obtain ⟨hci, hfi⟩ := BN.out.getN (i := 0) rfl i hibl2
                    have HLEN := Aside0.mk hlen
                    have hcap7 := (BN.out.len (i := 1) rfl).2.1
                    have hs7 : ∀ W : World, (Instr.slice 117 (.slice (some ⟨g7, 0, none⟩) s1.opn.length c7) none (some (.int .i64 ((s1.opn.length : Int) - 1))) none).run Try.prog W = .ok (.slice (some ⟨g7, 0, none⟩) (s1.opn.length - 1) c7) W := by
                      intro W
                      obtain ⟨i7, hi7, _, hz7, _⟩ := info_parts (show (Try.prog.info? 3).map (fun i => (i.zero, i.size, i.bytes)) = some (some (.int .i64 0), 1, 8) by kernel_rfl)
                      have h0 := (print_take_int (P := Try.prog) (k := .i64) 117 3 Try.underlying117 hi7 hz7 (some ⟨g7, 0, none⟩) c7 s1.opn ((s1.opn.length : Int) - 1) (by omega) (by omega) hcap7).1 W
                      rwa [List.length_take, show min ((s1.opn.length : Int) - 1).toNat s1.opn.length = s1.opn.length - 1 by omega] at h0
                    clear hcap7
                    go_upto_block 3 with (first | ((with_reducible refine gate_store (t := 2) (p := 119) rfl ?_); refine store_event (t := 2) (p := 119) (v := ?vo_w5) (w1 := w4.setCell ⟨w.heap.size, i, none⟩ (.int .i64 o)) ?hgw5 ?how5 ?hnw5 ?hrw5 ?_; (case how5 => rfl); (case hgw5 => rfl); (case hnw5 => rfl); (case hrw5 => first | (go_simp; done) | (go_simp; rfl)); intro w5 hw; obtain ⟨hp1, hp2, hp3⟩ := BN.out.put (i := 0) rfl i o; rw [← hw] at hp1 hp2; clear hci hfi hw hco; have n0_ := Aside0.mk (HM.out.grown hp2 (HM.out.ne BN.out (i := 0) rfl)); have n1_ := Aside0.mk (show Bun w5 w.heap.size (⟨.slice (some ⟨w.heap.size, 0, none⟩) l1.length l1.length, 2, nums .i64 (s1.out.set i o)⟩ :: ⟨.slice (some ⟨g7, 0, none⟩) s1.opn.length c7, 3, nums .i64 (s1.opn)⟩ :: ⟨.slice A8 s1.loops.length c8, 3, nums .i64 (s1.loops)⟩ :: ⟨.slice A9 inn.length c9, 117, inn⟩ :: ⟨.slice A10 s1.rounds.length c10, 2, nums .i64 (s1.rounds)⟩ :: innE 3 (inn) (s1.stops)) from hp1); have n2_ := Aside0.mk (HB.out.grown hp2 HB.out.size (fun k e => by cases e; exact hp3)); clear HM; clear BN; clear HB; have HM := n0_; have BN := n1_; have HB := n2_; clear n0_ n1_ n2_; clear hp1 hp2 hp3; replace hxo : w5.cell? (ad.add (o.toNat * 5)) = some (.int .i64 lf) := (by rw [HLF.out]; obtain ⟨ad2, e2, hx2, _⟩ := at_T75 (Kd.C_below HR.out HB.out) o ho0 hol1; cases e2; exact hx2)))
                    obtain ⟨o1, ho1⟩ : ∃ o1, o1 = s1.out.set i o := ⟨_, rfl⟩
                    have HO1 := Aside0.mk ho1
                    replace BN : Aside0 (Bun w5 w.heap.size (⟨.slice (some ⟨w.heap.size, 0, none⟩) l1.length l1.length, 2, nums .i64 (o1)⟩ :: ⟨.slice (some ⟨g7, 0, none⟩) s1.opn.length c7, 3, nums .i64 (s1.opn)⟩ :: ⟨.slice A8 s1.loops.length c8, 3, nums .i64 (s1.loops)⟩ :: ⟨.slice A9 inn.length c9, 117, inn⟩ :: ⟨.slice A10 s1.rounds.length c10, 2, nums .i64 (s1.rounds)⟩ :: innE 3 (inn) (s1.stops))) := ⟨by rw [ho1]; exact BN.out⟩
                    have hl1 : o1.length = l1.length := by rw [ho1, List.length_set]; exact HLEN.out
                    rw [Int.toNat_natCast, ← ho1] at h
                    clear ho1 hlen
                    by_cases k5 : lf = 5
                    · as_aux_lemma =>
                      rw [if_pos k5] at h
                      have bl : (lf == 5) = true := beq_iff_eq.2 k5
                      clear k5
                      replace h := ifp h
                      obtain ⟨⟨hlo0, hlos, hro0⟩, h⟩ := h
                      obtain ⟨out2, hset, h⟩ := Option.bind_eq_some_iff.mp h
                      have HQ3 := Aside0.mk (Option.some.inj h)
                      obtain ⟨sj, hsj⟩ : ∃ sj, sj = s1.stops.getD (s1.loops.length - 1) [] := ⟨_, rfl⟩
                      rw [← hsj] at hset
                      have HSET := Aside0.mk hset
                      have hjs : s1.loops.length - 1 < s1.stops.length := by omega
                      have hjl : s1.loops.length - 1 < inn.length := by rw [HI.out]; exact hjs
                      have he := innE_get (e := 3) HI.out (s1.loops.length - 1) hjs
                      rw [← hsj] at he
                      have hvj0 : inn.getD (s1.loops.length - 1) (.slice none 0 0) = inn[s1.loops.length - 1] := by simp [List.getD_eq_getElem?_getD, hjl]
                      obtain ⟨Aj, cj, hvj⟩ := BN.out.form (i := s1.loops.length - 1 + 5) he
                      simp only [nums_length] at hvj
                      have HVJ := Aside0.mk (hvj0.symm.trans hvj)
                      rw [hvj] at he
                      have HE := Aside0.mk he
                      clear h hset hsj he hvj hvj0
                      obtain ⟨g9, f9, hg9, hg9l⟩ := BN.out.form1 (i := 3) rfl (by omega)
                      subst f9
                      obtain ⟨hcs, hfs⟩ := BN.out.getN (i := 0) rfl o.toNat (by omega)
                      have hcj : w5.cell? ⟨g9, s1.loops.length - 1, none⟩ = some (.slice Aj sj.length cj) := by have h0 := (BN.out.cell (i := 3) rfl (s1.loops.length - 1) hjl).1; rw [HVJ.out] at h0; exact h0
                      have hlom : s1.loops.length ≤ 9223372036854775807 := by have := BN.out.row (i := 2) rfl; rw [nums_length] at this; exact own_max this
                      have hlo1 : 1 ≤ s1.loops.length := hlo0
                      have hinl : inn.length = s1.stops.length := HI.out
                      have hlos2 : s1.loops.length - 1 < inn.length := hjl
                      clear hinl
                      go_wp2_with (first | ((with_reducible refine gate_store (t := 2) (p := 134) rfl ?_); refine store_event (t := 2) (p := 134) (v := ?vo_w64) (w1 := w5.setCell ⟨w.heap.size, o.toNat, none⟩ (.int .i64 i)) ?hgw64 ?how64 ?hnw64 ?hrw64 ?_; (case how64 => rfl); (case hgw64 => rfl); (case hnw64 => rfl); (case hrw64 => first | (go_simp; done) | (go_simp; rfl)); intro w64 hw; obtain ⟨hp1, hp2, hp3⟩ := BN.out.put (i := 0) rfl o.toNat (i : Int); rw [← hw] at hp1 hp2; clear hcs hfs hw; have n0_ := Aside0.mk (HM.out.grown hp2 (HM.out.ne BN.out (i := 0) rfl)); have n1_ := Aside0.mk (show Bun w64 w.heap.size (⟨.slice (some ⟨w.heap.size, 0, none⟩) l1.length l1.length, 2, nums .i64 (o1.set o.toNat (i : Int))⟩ :: ⟨.slice (some ⟨g7, 0, none⟩) s1.opn.length c7, 3, nums .i64 (s1.opn)⟩ :: ⟨.slice A8 s1.loops.length c8, 3, nums .i64 (s1.loops)⟩ :: ⟨.slice (some ⟨g9, 0, none⟩) inn.length c9, 117, inn⟩ :: ⟨.slice A10 s1.rounds.length c10, 2, nums .i64 (s1.rounds)⟩ :: innE 3 (inn) (s1.stops)) from hp1); have n2_ := Aside0.mk (HB.out.grown hp2 HB.out.size (fun k e => by cases e; exact hp3)); clear HM; clear BN; clear HB; have HM := n0_; have BN := n1_; have HB := n2_; clear n0_ n1_ n2_; clear hp1 hp2 hp3; replace hcj := (show w64.cell? ⟨g9, s1.loops.length - 1, none⟩ = some (.slice Aj sj.length cj) from by have h0 := (BN.out.cell (i := 3) rfl (s1.loops.length - 1) hjl).1; rw [HVJ.out] at h0; exact h0)))
                      skip
                      have hsjm : sj.length ≤ 9223372036854775807 := own_max (BN.out.rown (i := s1.loops.length - 1 + 5) HE.out)
                      go_loopg [143] sj.length (fun gq v143 wq => ∃ (kk : Nat) (ok : List Int), v143 = .int .i64 kk ∧ kk ≤ sj.length ∧ sj.length - kk ≤ gq ∧ Aside0 (Bun wq w.heap.size (⟨.slice (some ⟨w.heap.size, 0, none⟩) l1.length l1.length, 2, nums .i64 (ok)⟩ :: ⟨.slice (some ⟨g7, 0, none⟩) s1.opn.length c7, 3, nums .i64 (s1.opn)⟩ :: ⟨.slice A8 s1.loops.length c8, 3, nums .i64 (s1.loops)⟩ :: ⟨.slice (some ⟨g9, 0, none⟩) inn.length c9, 117, inn⟩ :: ⟨.slice A10 s1.rounds.length c10, 2, nums .i64 (s1.rounds)⟩ :: innE 3 (inn) (s1.stops))) ∧ Aside0 (MapB wq Try.prog 3 4 w.heap.size (w.heap.size + 1 + 1) s1.els) ∧ Aside0 (Below w.heap.size w wq) ∧ Aside0 (setAll i (sj.drop kk) ok = some out2))
                      case atStart => exact ⟨0, _, by simp, Nat.zero_le _, by omega, BN, HM, HB, ⟨by simpa using HSET.out⟩⟩
                      case round =>
                        clear HSET hcj BN HM HB
                        obtain ⟨kk, ok, rfl, hkk, hgq, BN, HM, HB, HS⟩ := hrel
                        by_cases hkl : kk < sj.length
                        · have hkz : (kk : Int) < (sj.length : Int) := by omega
                          have hs0 := HS.out
                          rw [List.drop_eq_getElem_cons hkl] at hs0
                          simp only [setAll] at hs0
                          replace hs0 := ifp hs0
                          obtain ⟨⟨hk0, hk1⟩, hs0⟩ := hs0
                          obtain ⟨gj, fj, _, _⟩ := BN.out.form1 (i := s1.loops.length - 1 + 5) HE.out (by omega)
                          subst fj
                          obtain ⟨hcx, _⟩ := BN.out.getN (i := s1.loops.length - 1 + 5) HE.out kk hkl
                          obtain ⟨x, hx⟩ : ∃ x, x = sj[kk] := ⟨_, rfl⟩
                          rw [← hx] at hk0 hk1 hs0
                          replace hcx : wr.cell? ⟨gj, kk, none⟩ = some (.int .i64 x) := by rw [hcx, hx]; simp [List.getD_eq_getElem?_getD, hkl]
                          have hol3 : ok.length = l1.length := by have := (BN.out.len (i := 0) rfl).1; rwa [nums_length] at this
                          have hx2 : x < (l1.length : Int) := by omega
                          obtain ⟨hcs, hfs⟩ := BN.out.getN (i := 0) rfl x.toNat (by omega)
                          have HS1 := Aside0.mk hs0
                          clear HS hs0 hx hk1 hol3
                          go_wp2_with (first | ((with_reducible refine gate_store (t := 2) (p := 150) rfl ?_); refine store_event (t := 2) (p := 150) (v := ?vo_w65) (w1 := wr.setCell ⟨w.heap.size, x.toNat, none⟩ (.int .i64 i)) ?hgw65 ?how65 ?hnw65 ?hrw65 ?_; (case how65 => rfl); (case hgw65 => rfl); (case hnw65 => rfl); (case hrw65 => first | (go_simp; done) | (go_simp; rfl)); intro w65 hw; obtain ⟨hp1, hp2, hp3⟩ := BN.out.put (i := 0) rfl x.toNat (i : Int); rw [← hw] at hp1 hp2; clear hcs hfs hw hcx; have n0_ := Aside0.mk (HM.out.grown hp2 (HM.out.ne BN.out (i := 0) rfl)); have n1_ := Aside0.mk (show Bun w65 w.heap.size (⟨.slice (some ⟨w.heap.size, 0, none⟩) l1.length l1.length, 2, nums .i64 (ok.set x.toNat (i : Int))⟩ :: ⟨.slice (some ⟨g7, 0, none⟩) s1.opn.length c7, 3, nums .i64 (s1.opn)⟩ :: ⟨.slice A8 s1.loops.length c8, 3, nums .i64 (s1.loops)⟩ :: ⟨.slice (some ⟨g9, 0, none⟩) inn.length c9, 117, inn⟩ :: ⟨.slice A10 s1.rounds.length c10, 2, nums .i64 (s1.rounds)⟩ :: innE 3 (inn) (s1.stops)) from hp1); have n2_ := Aside0.mk (HB.out.grown hp2 HB.out.size (fun k e => by cases e; exact hp3)); clear HM; clear BN; clear HB; have HM := n0_; have BN := n1_; have HB := n2_; clear n0_ n1_ n2_; clear hp1 hp2 hp3))
                          go_roundg (sj.length - (kk + 1))
                          case measure => omega
                          case rel => exact ⟨kk + 1, _, by go_num, by omega, by omega, BN, HM, HB, HS1⟩
                        · have hkz : ¬ (kk : Int) < (sj.length : Int) := by omega
                          have hke : kk = sj.length := by omega
                          have hs0 := HS.out
                          rw [hke, List.drop_length] at hs0
                          simp only [setAll, Option.some.injEq] at hs0
                          subst hs0
                          clear HS hke
                          have hro1 : 1 ≤ s1.rounds.length := hro0
                          have hrom : s1.rounds.length ≤ 9223372036854775807 := by have := BN.out.row (i := 4) rfl; rw [nums_length] at this; exact own_max this
                          have hs8 : ∀ W : World, (Instr.slice 117 (.slice A8 s1.loops.length c8) none (some (.int .i64 ((s1.loops.length : Int) - 1))) none).run Try.prog W = .ok (.slice A8 (s1.loops.length - 1) c8) W := by
                            intro W
                            obtain ⟨i7, hi7, _, hz7, _⟩ := info_parts (show (Try.prog.info? 3).map (fun i => (i.zero, i.size, i.bytes)) = some (some (.int .i64 0), 1, 8) by kernel_rfl)
                            have h0 := (print_take_int (P := Try.prog) (k := .i64) 117 3 Try.underlying117 hi7 hz7 (A8) c8 s1.loops ((s1.loops.length : Int) - 1) (by omega) (by omega) (BN.out.len (i := 2) rfl).2.1).1 W
                            rwa [List.length_take, show min ((s1.loops.length : Int) - 1).toNat s1.loops.length = s1.loops.length - 1 by omega] at h0
                          have hs10 : ∀ W : World, (Instr.slice 22 (.slice A10 s1.rounds.length c10) none (some (.int .i64 ((s1.rounds.length : Int) - 1))) none).run Try.prog W = .ok (.slice A10 (s1.rounds.length - 1) c10) W := by
                            intro W
                            obtain ⟨i7, hi7, _, hz7, _⟩ := info_parts (show (Try.prog.info? 2).map (fun i => (i.zero, i.size, i.bytes)) = some (some (.int .i64 0), 1, 8) by kernel_rfl)
                            have h0 := (print_take_int (P := Try.prog) (k := .i64) 22 2 Try.underlying22 hi7 hz7 (A10) c10 s1.rounds ((s1.rounds.length : Int) - 1) (by omega) (by omega) (BN.out.len (i := 4) rfl).2.1).1 W
                            rwa [List.length_take, show min ((s1.rounds.length : Int) - 1).toNat s1.rounds.length = s1.rounds.length - 1 by omega] at h0
                          have hs9 : ∀ W : World, (Instr.slice 118 (.slice (some ⟨g9, 0, none⟩) inn.length c9) none (some (.int .i64 ((s1.loops.length : Int) - 1))) none).run Try.prog W = .ok (.slice (some ⟨g9, 0, none⟩) (s1.loops.length - 1) c9) W := by
                            intro W
                            obtain ⟨i7, hi7, _, hz7, _⟩ := info_parts (show (Try.prog.info? 117).map (fun i => (i.zero, i.size, i.bytes)) = some (some (.slice none 0 0), 1, 24) by kernel_rfl)
                            have h0 := (print_take_of (P := Try.prog) (fun (v : Value) => v) (.slice none 0 0) 118 117 .i64 Try.underlying118 hi7 hz7 (some ⟨g9, 0, none⟩) c9 inn ((s1.loops.length : Int) - 1) (by omega) (by omega) (BN.out.len (i := 3) rfl).2.1).1 W
                            rwa [List.length_take, show min ((s1.loops.length : Int) - 1).toNat inn.length = s1.loops.length - 1 by omega] at h0
                          have hw1 : IntKind.i64.wrap ((s1.rounds.length : Int) - 1) = (s1.rounds.length : Int) - 1 := by rw [i64_w]; unfold wrap64; omega
                          have q4 := ((((BN.out.shorter (i := 1) (m := s1.opn.length - 1) rfl (Nat.sub_le _ 1)).shorter (i := 2) (m := s1.loops.length - 1) rfl (Nat.sub_le _ 1)).shorter (i := 3) (m := s1.loops.length - 1) rfl (by omega)).shorter (i := 4) (m := s1.rounds.length - 1) rfl (Nat.sub_le _ 1))
                          have q5 := Bun.init (E := [_, _, _, _, _]) (F := innE 3 inn s1.stops) q4 (s1.loops.length - 1)
                          simp only [innE_take, nums_take, List.cons_append, List.nil_append] at q5
                          have Q5 := Aside0.mk q5
                          clear q4 q5
                          go_wp2
                          go_quiet (fail)
                          go_wp2
                          go_meet
                          case rel => exact ⟨_, inn.take (s1.loops.length - 1), ⟨HQ3.out.symm⟩, ⟨bunst Q5⟩, ⟨by simp [HI.out]⟩, ⟨mapst HM⟩, ⟨bst HB⟩⟩
                    · as_aux_lemma =>
                      rw [if_neg k5] at h
                      have bl : (lf == 5) = false := beq_eq_false_iff_ne.2 k5
                      clear k5
                      have hlook := MapB.look (t := 119) HM.out Try.underlying3 Try.underlying119 Try.underlying4 (by kernel_rfl) o (WalkArith.wf_i64 (by omega))
                      by_cases ke : o ∈ s1.els
                      · as_aux_lemma =>
                        rw [if_pos ke] at h
                        replace h := ifp h
                        obtain ⟨⟨ht0, ht1⟩, h⟩ := h
                        have HQ3 := Aside0.mk (Option.some.inj h)
                        rw [decide_eq_true ke] at hlook
                        obtain ⟨hcs0, _⟩ := BN.out.getN (i := 0) rfl o.toNat (by omega)
                        obtain ⟨u, hu⟩ : ∃ u, u = rd o1 o := ⟨_, rfl⟩
                        rw [← hu] at ht0 ht1 HQ3
                        replace hcs0 : w5.cell? ⟨w.heap.size, o.toNat, none⟩ = some (.int .i64 u) := by rw [hu]; exact hcs0
                        have ht2 : u < (l1.length : Int) := by have := HLEN.out; omega
                        obtain ⟨hcs, hfs⟩ := BN.out.getN (i := 0) rfl u.toNat (by omega)
                        clear h ke hu
                        go_wp2_with (first | ((with_reducible refine gate_store (t := 2) (p := 173) rfl ?_); refine store_event (t := 2) (p := 173) (v := ?vo_w61) (w1 := w5.setCell ⟨w.heap.size, u.toNat, none⟩ (.int .i64 i)) ?hgw61 ?how61 ?hnw61 ?hrw61 ?_; (case how61 => rfl); (case hgw61 => rfl); (case hnw61 => rfl); (case hrw61 => first | (go_simp; done) | (go_simp; rfl)); intro w61 hw; obtain ⟨hp1, hp2, hp3⟩ := BN.out.put (i := 0) rfl u.toNat (i : Int); rw [← hw] at hp1 hp2; clear hcs hfs hw hlook hcs0; have n0_ := Aside0.mk (HM.out.grown hp2 (HM.out.ne BN.out (i := 0) rfl)); have n1_ := Aside0.mk (show Bun w61 w.heap.size (⟨.slice (some ⟨w.heap.size, 0, none⟩) l1.length l1.length, 2, nums .i64 (o1.set u.toNat (i : Int))⟩ :: ⟨.slice (some ⟨g7, 0, none⟩) s1.opn.length c7, 3, nums .i64 (s1.opn)⟩ :: ⟨.slice A8 s1.loops.length c8, 3, nums .i64 (s1.loops)⟩ :: ⟨.slice A9 inn.length c9, 117, inn⟩ :: ⟨.slice A10 s1.rounds.length c10, 2, nums .i64 (s1.rounds)⟩ :: innE 3 (inn) (s1.stops)) from hp1); have n2_ := Aside0.mk (HB.out.grown hp2 HB.out.size (fun k e => by cases e; exact hp3)); clear HM; clear BN; clear HB; have HM := n0_; have BN := n1_; have HB := n2_; clear n0_ n1_ n2_; clear hp1 hp2 hp3))
                        have n0_ := Aside0.mk (BN.out.shorter (i := 1) rfl (Nat.sub_le _ 1))
                        go_meet
                        case rel => exact ⟨_, inn, ⟨HQ3.out.symm⟩, ⟨by have h0 := n0_.out; rw [nums_take] at h0; exact h0⟩, HI, HM, HB⟩
                      · as_aux_lemma =>
                        rw [if_neg ke] at h
                        have HQ3 := Aside0.mk (Option.some.inj h)
                        rw [decide_eq_false ke] at hlook
                        obtain ⟨hcs, hfs⟩ := BN.out.getN (i := 0) rfl o.toNat (by omega)
                        clear h ke
                        go_wp2_with (first | ((with_reducible refine gate_store (t := 2) (p := 123) rfl ?_); refine store_event (t := 2) (p := 123) (v := ?vo_w62) (w1 := w5.setCell ⟨w.heap.size, o.toNat, none⟩ (.int .i64 i)) ?hgw62 ?how62 ?hnw62 ?hrw62 ?_; (case how62 => rfl); (case hgw62 => rfl); (case hnw62 => rfl); (case hrw62 => first | (go_simp; done) | (go_simp; rfl)); intro w62 hw; obtain ⟨hp1, hp2, hp3⟩ := BN.out.put (i := 0) rfl o.toNat (i : Int); rw [← hw] at hp1 hp2; clear hcs hfs hw hlook ; have n0_ := Aside0.mk (HM.out.grown hp2 (HM.out.ne BN.out (i := 0) rfl)); have n1_ := Aside0.mk (show Bun w62 w.heap.size (⟨.slice (some ⟨w.heap.size, 0, none⟩) l1.length l1.length, 2, nums .i64 (o1.set o.toNat (i : Int))⟩ :: ⟨.slice (some ⟨g7, 0, none⟩) s1.opn.length c7, 3, nums .i64 (s1.opn)⟩ :: ⟨.slice A8 s1.loops.length c8, 3, nums .i64 (s1.loops)⟩ :: ⟨.slice A9 inn.length c9, 117, inn⟩ :: ⟨.slice A10 s1.rounds.length c10, 2, nums .i64 (s1.rounds)⟩ :: innE 3 (inn) (s1.stops)) from hp1); have n2_ := Aside0.mk (HB.out.grown hp2 HB.out.size (fun k e => by cases e; exact hp3)); clear HM; clear BN; clear HB; have HM := n0_; have BN := n1_; have HB := n2_; clear n0_ n1_ n2_; clear hp1 hp2 hp3))
                        have n0_ := Aside0.mk (BN.out.shorter (i := 1) rfl (Nat.sub_le _ 1))
                        go_meet
                        case rel => exact ⟨_, inn, ⟨HQ3.out.symm⟩, ⟨by have h0 := n0_.out; rw [nums_take] at h0; exact h0⟩, HI, HM, HB⟩
                · as_aux_lemma =>
                  rw [if_neg k4] at h
                  have b4 : (L.f0 == 4) = false := beq_eq_false_iff_ne.2 k4
                  clear k4
                  by_cases k6 : L.f0 = 6
                  · as_aux_lemma =>
                    rw [if_pos k6] at h
                    have b6 : (L.f0 == 6) = true := beq_iff_eq.2 k6
                    clear k6
                    by_cases ko : s1.loops.length = 0
                    · as_aux_lemma =>
                      rw [if_pos ko] at h
                      have HQN := Aside0.mk (Option.some.inj h)
                      have hqn := HQ2.out
                      rw [← HQN.out] at hqn
                      obtain rfl := Option.some.inj hqn
                      have h1 := H1'.out
                      simp only [Option.some.injEq, Prod.mk.injEq] at h1
                      obtain ⟨rfl, rfl⟩ := h1
                      clear hqn
                      have ho1 : ((s1.loops.length : Int) == 0) = true := by rw [ko]; rfl
                      clear h ko
                      go_wp2
                      go_ret2
                      exact ⟨_, rfl, Kd.R_nil _ _ _ _ _, HB.out⟩
                    · as_aux_lemma =>
                      rw [if_neg ko] at h
                      unfold impl_paired.stop at h
                      replace h := ifp h
                      obtain ⟨⟨hlos, hsl⟩, h⟩ := h
                      have HQ3 := Aside0.mk (Option.some.inj h)
                      have hlo1 : 1 ≤ s1.loops.length := Nat.pos_of_ne_zero ko
                      have ho1 : ((s1.loops.length : Int) == 0) = false := by rw [beq_eq_false_iff_ne]; omega
                      obtain ⟨sj, hsj⟩ : ∃ sj, sj = s1.stops.getD (s1.loops.length - 1) [] := ⟨_, rfl⟩
                      rw [← hsj] at hsl HQ3
                      have HSL := Aside0.mk hsl
                      have hjs : s1.loops.length - 1 < s1.stops.length := by omega
                      have hjl : s1.loops.length - 1 < inn.length := by rw [HI.out]; exact hjs
                      have he := innE_get (e := 3) HI.out (s1.loops.length - 1) hjs
                      rw [← hsj] at he
                      have hvj0 : inn.getD (s1.loops.length - 1) (.slice none 0 0) = inn[s1.loops.length - 1] := by simp [List.getD_eq_getElem?_getD, hjl]
                      obtain ⟨Aj, cj, hvj⟩ := BN.out.form (i := s1.loops.length - 1 + 5) he
                      simp only [nums_length] at hvj
                      have HVJ := Aside0.mk (hvj0.symm.trans hvj)
                      rw [hvj] at he
                      have HE := Aside0.mk he
                      clear h hsj he hvj hvj0 hsl ko
                      obtain ⟨g9, f9, hg9, hg9l⟩ := BN.out.form1 (i := 3) rfl (by omega)
                      subst f9
                      have HG9 := Aside0.mk hg9
                      have hcj : w4.cell? ⟨g9, s1.loops.length - 1, none⟩ = some (.slice Aj sj.length cj) := by have h0 := (BN.out.cell (i := 3) rfl (s1.loops.length - 1) hjl).1; rw [HVJ.out] at h0; exact h0
                      have hlom : s1.loops.length ≤ 9223372036854775807 := by have := BN.out.row (i := 2) rfl; rw [nums_length] at this; exact own_max this
                      have hlos2 : s1.loops.length - 1 < inn.length := hjl
                      clear hg9 hg9l
                      go_wp2_with (first | ((with_reducible refine gate_builtin (b := .append) (xs := #[.tmp 191, .tmp 193]) rfl ?_); at_builtin; refine print_append_num (w0 := w) (W := w4) w.heap.size rfl (.tmp 191) (.tmp 193) 117 3 .i64 8 rfl Try.underlying117 (by kernel_rfl) (by omega) (.slice Aj sj.length cj) sj (i : Int) rfl rfl (BN.out.rown (i := s1.loops.length - 1 + 5) HE.out) HB.out HB.out.size (by have := HSL.out; omega) ?_; intro x11 w71 ho hB hg hat; obtain ⟨Ax, cx, ex⟩ := own_slice ho; subst ex; have hz := BN.out.set (i := s1.loops.length - 1 + 5) (y := (⟨.slice Ax (sj ++ [(i : Int)]).length cx, 3, nums .i64 (sj ++ [(i : Int)])⟩ : Ent)) HE.out hg (by rw [nums_length]; exact ho) hat; have hz1 := innE_set (e := 3) HI.out (s1.loops.length - 1) (.slice Ax (sj ++ [(i : Int)]).length cx) (sj ++ [(i : Int)]); simp only [List.set_cons_succ] at hz; rw [hz1] at hz; have n0_ := Aside0.mk (HM.out.grown hg (HM.out.ne BN.out (i := s1.loops.length - 1 + 5) HE.out)); have n1_ := Aside0.mk (hz); have n2_ := Aside0.mk (hB); clear HM; clear BN; clear HB; have HM := n0_; have BN := n1_; have HB := n2_; clear n0_ n1_ n2_; clear hg hat hz hz1 ho hk0 hk4 hcj; obtain ⟨hcs, hfs⟩ := BN.out.cell (i := 3) rfl (s1.loops.length - 1) hjl) | ((with_reducible refine gate_store (t := 117) (p := 195) rfl ?_); refine store_event (t := 117) (p := 195) (v := ?vo_w72) (w1 := w71.setCell ⟨g9, s1.loops.length - 1, none⟩ (.slice Ax (sj ++ [(i : Int)]).length cx)) ?hgw72 ?how72 ?hnw72 ?hrw72 ?_; (case how72 => rfl); (case hgw72 => rfl); (case hnw72 => rfl); (case hrw72 => first | (go_simp; done) | (go_simp; rfl)); intro w72 hw; have hp1 := BN.out.store (i := 3) rfl rfl (s1.loops.length - 1) (.slice Ax (sj ++ [(i : Int)]).length cx); have hp2 := (World.ownsRow.stored (by have h0 := BN.out.row (i := 3) rfl; exact h0) (s1.loops.length - 1) (.slice Ax (sj ++ [(i : Int)]).length cx)).2; rw [← hw] at hp1 hp2; clear hcs hfs hw; have n0_ := Aside0.mk (HM.out.grown hp2 (HM.out.ne BN.out (i := 3) rfl)); have n1_ := Aside0.mk (HB.out.grown hp2 HB.out.size (fun k e => by cases e; exact HG9.out)); have n2_ := Aside0.mk (hp1); clear HM; clear HB; clear BN; have HM := n0_; have HB := n1_; have BN := n2_; clear n0_ n1_ n2_; clear hp1 hp2))
                      go_meet
                      case rel => exact ⟨_, _, ⟨HQ3.out.symm⟩, BN, ⟨by simp [HI.out]⟩, HM, HB⟩
                  · as_aux_lemma =>
                    rw [if_neg k6] at h
                    have b6 : (L.f0 == 6) = false := beq_eq_false_iff_ne.2 k6
                    have HQ3 := Aside0.mk (Option.some.inj h)
                    clear h k6
                    go_wp2
                    go_meet
                    case rel => exact ⟨_, inn, ⟨HQ3.out.symm⟩, BN, HI, HM, HB⟩
        case rest =>
         as_aux_lemma =>
         obtain ⟨s2, inn2, hq1, BN2, HI2, HM2, HB2⟩ := hcut
         have hq := HQ2.out
         rw [hq1.out] at hq
         change impl_paired.fin s2 = some q at hq
         unfold impl_paired.fin at hq
         clear HQ1 HQ2 BN HI HM HB BX
         obtain ⟨B7, d7, f7⟩ := BN2.out.form (i := 1) rfl
         obtain ⟨B10, d10, f10⟩ := BN2.out.form (i := 4) rfl
         simp only [nums_length] at f7 f10
         subst f7 f10
         by_cases hp : 4 < s2.opn.length
         · rw [if_pos hp] at hq
           obtain rfl := Option.some.inj hq
           have h1 := H1'.out
           simp only [Option.some.injEq, Prod.mk.injEq] at h1
           obtain ⟨rfl, rfl⟩ := h1
           have hp1 : (4 : Int) < (s2.opn.length : Int) := by omega
           clear hq hp
           go_wp2
           go_ret2
           exact ⟨_, rfl, Kd.R_nil _ _ _ _ _, HB2.out⟩
         · rw [if_neg hp] at hq
           replace hq := ifp hq
           obtain ⟨hr0, hq⟩ := hq
           have hp1 : ¬ (4 : Int) < (s2.opn.length : Int) := by omega
           obtain ⟨g10, f10, _, _⟩ := BN2.out.form1 (i := 4) rfl hr0
           subst f10
           have hrl := (BN2.out.len (i := 4) rfl).2.2
           obtain ⟨hcr, _⟩ := BN2.out.getN (i := 4) rfl (s2.rounds.length - 1) (by omega)
           obtain ⟨lr, hlr⟩ : ∃ lr, lr = lastI s2.rounds := ⟨_, rfl⟩
           replace hcr : wc.cell? ⟨g10, s2.rounds.length - 1, none⟩ = some (.int .i64 lr) := by rw [hlr]; exact hcr
           rw [← hlr] at hq
           clear hp hlr
           by_cases hr : 64 < lr
           · rw [if_pos hr] at hq
             obtain rfl := Option.some.inj hq
             have h1 := H1'.out
             simp only [Option.some.injEq, Prod.mk.injEq] at h1
             obtain ⟨rfl, rfl⟩ := h1
             clear hq
             go_wp2
             go_ret2
             exact ⟨_, rfl, Kd.R_nil _ _ _ _ _, HB2.out⟩
           · rw [if_neg hr] at hq
             obtain rfl := Option.some.inj hq
             have hr' : lr ≤ 64 := by omega
             clear hq
             go_wp2
             go_roundg (l1.length - (i + 1))
             case measure => omega
             case rel => exact ⟨i + 1, s2, inn2, by go_num, by omega, by omega, BN2, HI2, HM2, HB2, ⟨by simpa using H1'.out⟩⟩
    · have hltz : ¬ (i : Int) < (l1.length : Int) := by omega
      have hin : i = l1.length := by omega
      have H0 := HG.out
      rw [hin, List.drop_length] at H0
      simp only [impl_paired.go, Option.some.injEq, Prod.mk.injEq] at H0
      obtain ⟨rfl, rfl⟩ := H0
      obtain ⟨A7, c7, e7⟩ := BN.out.form (i := 1) rfl
      simp only [nums_length] at e7
      subst e7
      clear HG hin
      have R := Aside0.mk (Kd.R_of_own (enc := Value.int .i64) (h1 := fun _ => rfl) (ok := fun _ => True) (BN.out.rown (i := 0) rfl) (fun _ _ => trivial))
      go_wp2
      go_ret2
      exact ⟨_, by simp; rw [Bool.eq_iff_iff]; simp, R.out, HB.out⟩
end Go.Proofs.Ytfpcfaapoeeipaa.P
namespace Go.Proofs.Ytfpcfaapoeeipaa.P
open Go.RowKit Go.Proofs.YtfpcfaapoeeipaaW.PrintWords Go.Proofs.YtfpcfaapoeeipaaW.PrintLast Go.Proofs.YtfpcfaapoeeipaaW.PrintMore
attribute [local go_sem] max2_int min2_int max_two min_two
set_option linter.unusedVariables false
set_option linter.unusedSimpArgs false
def impl_ValidLines.f (k : Nat) (a0 : Int) (l1 : List (S75)) : Option (Bool) := (impl_isBits.f a0).bind fun t312 => (if t312 = true then (if (l1.length : Int) > 24 then (some false) else ((impl_paired.f k a0 l1).bind fun bt313 => (some bt313.2))) else (some false))
set_option maxHeartbeats 8000000 in
set_option maxRecDepth 100000 in
theorem impl_ValidLines.calls (k : Nat) (a0 : Int) (A1 : Option Addr) (c1 : Nat) (l1 : List (S75)) (r : Bool) (w : World) (hr1 : Kd.C k75 w A1 l1.length l1) (hc1 : l1.length ≤ c1) (h : impl_ValidLines.f k a0 l1 = some r) :
  Calls Try.prog 39 #[.int .i64 a0, .slice A1 l1.length c1] w fun e w' => e = .returned (.bool r) ∧ Below w.heap.size w w' := by
 have HR1 := am hr1
 have HC1 := am hc1
 clear hr1 hc1
 have HB := am (Below.refl w.heap.size w)
 have H : ((impl_isBits.f a0).bind fun t312 => (if t312 = true then (if (l1.length : Int) > 24 then (some false) else ((impl_paired.f k a0 l1).bind fun bt313 => (some bt313.2))) else (some false))) = some r := h
 clear h
 replace H := Option.bind_eq_some_iff.mp H
 obtain ⟨t312, A30, H⟩ := H
 replace H : (if t312 = true then (if (l1.length : Int) > 24 then (some false) else ((impl_paired.f k a0 l1).bind fun bt313 => (some bt313.2))) else (some false)) = some r := H
 have A3 := am A30
 clear A30
 by_cases c4 : t312 = true
 ·
  subst c4
  have H1 : (if (l1.length : Int) > 24 then (some false) else ((impl_paired.f k a0 l1).bind fun bt313 => (some bt313.2))) = some r := by rw [if_pos rfl] at H; exact H
  clear H
  have H := H1
  clear H1
  by_cases c5 : (l1.length : Int) > 24
  ·
   rw [if_pos c5] at H
   have c5b0 : decide (24 < (l1.length : Int)) = true := decide_eq_true c5
   have c5b1 : decide (24 < l1.length) = true := decide_eq_true (by omega)
   clear c5
   obtain rfl := Option.some.inj H
   go_enter Try.func39, Try.ntmps39
   go_wp2_with (first | ((with_reducible refine gate_callee (f := 79) rfl ?_); refine goesL_ (some 8) rfl rfl Try.func79 (by kernel_rfl) rfl #[.int .i64 a0] rfl (by (try simp only [List.map_toArray, List.map_cons, List.map_nil]); first | done | rfl | (simp only [List.length_drop, List.length_take]; rfl)) ?_; (with_reducible refine (impl_isBits.calls a0 true _ A3.out).mono ?_); rintro e w' ⟨rfl, ⟨nd, rfl⟩⟩; refine ⟨_, rfl, ?_⟩))
   go_ret
   exact ⟨by first | rfl | (simp [errW_none, errW_some] <;> rfl) | (simp [*, errW_none, errW_some] <;> rfl), by repeat (first | (with_reducible first | exact HB.out | apply below_alloc | apply pw_below_drewN | apply below_drew1) | exact HB.out)⟩
  ·
   rw [if_neg c5] at H
   have c5b0 : decide (24 < (l1.length : Int)) = false := decide_eq_false c5
   have c5b1 : decide (24 < l1.length) = false := decide_eq_false (by omega)
   clear c5
   replace H := Option.bind_eq_some_iff.mp H
   obtain ⟨⟨t313, t314⟩, A60, H⟩ := H
   replace H : (some t314) = some r := H
   have A6 := am A60
   clear A60
   obtain rfl := Option.some.inj H
   go_enter Try.func39, Try.ntmps39
   go_wp2_with (first | ((with_reducible refine gate_callee (f := 79) rfl ?_); refine goesL_ (some 8) rfl rfl Try.func79 (by kernel_rfl) rfl #[.int .i64 a0] rfl (by (try simp only [List.map_toArray, List.map_cons, List.map_nil]); first | done | rfl | (simp only [List.length_drop, List.length_take]; rfl)) ?_; (with_reducible refine (impl_isBits.calls a0 true _ A3.out).mono ?_); rintro e w' ⟨rfl, ⟨nd, rfl⟩⟩; refine ⟨_, rfl, ?_⟩) | ((with_reducible refine gate_callee (f := 80) rfl ?_); refine goesL_ (some 18) rfl rfl Try.func80 (by kernel_rfl) rfl #[.int .i64 a0, .slice A1 l1.length c1] rfl (by (try simp only [List.map_toArray, List.map_cons, List.map_nil]); first | done | rfl | (simp only [List.length_drop, List.length_take]; rfl)) ?_; (with_reducible refine (impl_paired.calls k a0 _ _ l1 t313 t314 _ ?side1 ?side2 A6.out).mono ?_); (case side1 => repeat (first | exact HR1.out | (with_reducible refine Kd.C_alloc ?_ _) | (with_reducible refine Kd.C_drewN ?_ _) | (with_reducible refine Kd.C_drew ?_))); (case side2 => exact HC1.out); rintro e w7 ⟨v315, rfl, ho0, hb⟩; refine ⟨_, rfl, ?_⟩; have n0_ := am (Kd.R_lower ho0 (below_size (bst HB))); have n1_ := am (below_step (bst HB) hb); clear HB; have HO316 := n0_; have HB := n1_; clear n0_ n1_; (try clear hb); (try clear hb2); (try clear hk); (try clear hi); (try clear ho0)))
   go_ret
   exact ⟨by first | rfl | (simp [errW_none, errW_some] <;> rfl) | (simp [*, errW_none, errW_some] <;> rfl), by repeat (first | (with_reducible first | exact HB.out | apply below_alloc | apply pw_below_drewN | apply below_drew1) | exact HB.out)⟩
 ·
  replace c4 := Bool.eq_false_iff.mpr c4
  subst c4
  have H1 : (some false) = some r := by rw [if_neg (show ¬ (false = true) by decide)] at H; exact H
  clear H
  have H := H1
  clear H1
  obtain rfl := Option.some.inj H
  go_enter Try.func39, Try.ntmps39
  go_wp2_with (first | ((with_reducible refine gate_callee (f := 79) rfl ?_); refine goesL_ (some 8) rfl rfl Try.func79 (by kernel_rfl) rfl #[.int .i64 a0] rfl (by (try simp only [List.map_toArray, List.map_cons, List.map_nil]); first | done | rfl | (simp only [List.length_drop, List.length_take]; rfl)) ?_; (with_reducible refine (impl_isBits.calls a0 false _ A3.out).mono ?_); rintro e w' ⟨rfl, ⟨nd, rfl⟩⟩; refine ⟨_, rfl, ?_⟩))
  go_ret
  exact ⟨by first | rfl | (simp [errW_none, errW_some] <;> rfl) | (simp [*, errW_none, errW_some] <;> rfl), by repeat (first | (with_reducible first | exact HB.out | apply below_alloc | apply pw_below_drewN | apply below_drew1) | exact HB.out)⟩
end Go.Proofs.Ytfpcfaapoeeipaa.P
