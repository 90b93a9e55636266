/- Contracts of functions of the given program, written by a program of this session out of the translation: each says that a call of the function does what the Lean function of its name says. -/
import Derived.Test.YtfpcfaapoeeipaaVey0
import Derived.Test.YtfpcfaapoeeipaaVep0
import Derived.Test.YtfpcfaapoeeipaaVep1
import Derived.Lib.SliceRun
import Derived.Deep.DeepMust
namespace Go.Proofs.Ytfpcfaapoeeipaa.P
open Go.RowKit Go.Proofs.YtfpcfaapoeeipaaW.PrintWords Go.Proofs.YtfpcfaapoeeipaaW.PrintLast Go.Proofs.YtfpcfaapoeeipaaW.PrintMore
set_option linter.unusedVariables false
set_option linter.unusedSimpArgs false
theorem R_sl1 {α : Type} {d : Kd α} {e base : Nat} {ok : Nat → Prop} {w : World} {v : Value} {xs : List α} (h : d.R e w base ok v xs) (hn : 0 < xs.length) : ∃ (ad : Addr) (c : Nat), v = .slice (some ad) xs.length c := by
  obtain ⟨A, c, rfl⟩ := Kd.R_slice h
  obtain ⟨ad, he, _⟩ := (Kd.R_reads' h).2.2.2.2 hn
  subst he
  exact ⟨ad, c, rfl⟩
set_option maxHeartbeats 4000000 in
set_option maxRecDepth 100000 in
/-- slices.Grow of no row. -/
theorem Grow_nil (n : Int) (w : World) (h0 : 0 < n) (h1 : n ≤ 1000000) :
    Calls Try.prog 98 #[.slice none 0 0, .int .i64 n] w fun e w' => ∃ v : Value, e = .returned v ∧ Kd.R (Kd.int .i64) 2 w' w.heap.size (fun _ => True) v [] ∧ Below w.heap.size w w' := by
  have hneg : ¬ (n < 0) := by omega
  have hw : wrap64 (n - 0) = n := by unfold wrap64; omega
  have hN := Aside0.mk (And.intro h0 h1)
  go_enter Try.func98, Try.ntmps98
  go_wp2_with ((with_reducible refine gate_builtin (b := .append) (xs := #[.tmp 20, .tmp 21]) rfl ?_); at_builtin
               refine Kd.R_append_zeros (Kd.int .i64) (w0 := w) w.heap.size rfl (.tmp 20) (.tmp 21) 22 3 2 (.int .i64 0) 8 rfl Try.underlying22 Try.underlying3 info2 rfl (by decide) (by omega) (.slice none 0 0) [] 0 n (fun _ => True) rfl rfl ?aZ (fun _ _ => trivial) (Kd.R_nil _ _ _ _ _) ?a0 (Below.refl _ _) (Nat.le_refl _) ?aL ?_
               (case aZ => exact rfl)
               (case a0 => have := hN.out; omega)
               (case aL => have := hN.out; simp; omega)
               intro v5 w5 hR5 hb5 hg5 hat5
               obtain ⟨ad5, c5, e5⟩ := R_sl1 hR5 (by have := hN.out; simp; omega)
               subst e5
               have n0_ := Aside0.mk hR5
               have n1_ := Aside0.mk hb5
               clear hR5 hb5 hg5 hat5; have HR5 := n0_; have HB := n1_; clear n0_ n1_)
  go_ret
  exact ⟨_, rfl, by simpa using Kd.R_take (m := 0) HR5.out (by simp), HB.out⟩
theorem flat_step (l0 : List (List Int)) (kk : Nat) (h : kk < l0.length) : (l0.take (kk + 1)).flatten = (l0.take kk).flatten ++ l0.getD kk [] := by
  rw [List.take_succ_eq_append_getElem h, List.flatten_append]; simp [h]
theorem flat_le (l0 : List (List Int)) (kk : Nat) : (l0.take kk).flatten.length ≤ l0.flatten.length := by
  have h := congrArg List.flatten (List.take_append_drop kk l0)
  rw [List.flatten_append] at h
  rw [← h, List.length_append]
  omega
def slices_Concat_int64_int64.f (l0 : List (List Int)) : Option (List Int) := if 0 < l0.flatten.length ∧ l0.flatten.length ≤ 1000000 then some l0.flatten else none
set_option maxHeartbeats 8000000 in
set_option maxRecDepth 100000 in
theorem slices_Concat_int64_int64.calls (A0 : Option Addr) (c0 : Nat) (l0 : List (List Int)) (r : List Int) (w : World) (hr0 : Kd.C (Kd.slice 2 (Kd.int .i64)) w A0 l0.length l0) (hc0 : l0.length ≤ c0) (h : slices_Concat_int64_int64.f l0 = some r) :
    Calls Try.prog 59 #[.slice A0 l0.length c0] w fun e w' => ∃ v : Value, e = .returned v ∧ Kd.R (Kd.int .i64) 2 w' w.heap.size (fun _ => True) v r ∧ Below w.heap.size w w' := by
  unfold slices_Concat_int64_int64.f at h
  obtain ⟨⟨hp, hm⟩, h⟩ := ifp h
  obtain rfl := Option.some.inj h
  have HM := Aside0.mk (And.intro hp hm)
  have HR0 := Aside0.mk hr0
  have hlen : l0.length ≤ 9223372036854775807 := hr0.2.1
  have hinfo : (Try.prog.info? 2).map (fun i => (i.zero, i.size, i.bytes)) = some (some (.int .i64 0), 1, 8) := by kernel_rfl
  have HI := Aside0.mk hinfo
  clear hinfo h hp hm hr0
  go_enter Try.func59, Try.ntmps59
  go_wp2
  go_loopg [3, 5, 11] l0.length (fun gg s3 _ s11 wr => ∃ kk : Nat, kk ≤ l0.length ∧ l0.length - kk ≤ gg ∧ s11 = .int .i64 kk ∧ s3 = .int .i64 ((l0.take kk).flatten.length : Nat) ∧ Aside0 (Below w.heap.size w wr))
  case atStart => exact ⟨0, Nat.zero_le _, by omega, rfl, by simp, ⟨Below.refl _ w⟩⟩
  case round =>
    obtain ⟨kk, hkk, hg, rfl, rfl, HB⟩ := hrel
    by_cases hlt : kk < l0.length
    · have hltz : (kk : Int) < (l0.length : Int) := by omega
      obtain ⟨ad, A1, c1, e, hx, hc1, hC⟩ := at_sl (Kd.C_below HR0.out HB.out) (kk : Int) (by omega) hltz
      cases e
      rw [Int.toNat_natCast] at hx hc1 hC
      have hfs := flat_step l0 kk hlt
      have hfl := flat_le l0 (kk + 1)
      obtain ⟨y, hy⟩ : ∃ y, y = l0.getD kk [] := ⟨_, rfl⟩
      rw [← hy] at hx hc1 hC hfs
      have hS : (l0.take (kk + 1)).flatten.length = (l0.take kk).flatten.length + y.length := by rw [hfs, List.length_append]
      obtain ⟨s, hs⟩ : ∃ s, s = (l0.take kk).flatten.length := ⟨_, rfl⟩
      rw [← hs] at hS ⊢
      have hb := HM.out
      have hneg : ¬ ((s : Int) + (y.length : Int) < 0) := by omega
      have FS := Aside0.mk hS
      have hw : wrap64 ((s : Int) + (y.length : Int)) = (s : Int) + (y.length : Int) := by clear hlen hx; unfold wrap64; omega
      clear hb hfs hfl hS hs hy hC hc1
      go_wp2
      go_roundg (l0.length - (kk + 1))
      case measure => omega
      case rel => exact ⟨kk + 1, by omega, by omega, by go_num, by rw [FS.out]; go_num, ⟨bst HB⟩⟩
    · have hltz : ¬ (kk : Int) < (l0.length : Int) := by omega
      have : kk = l0.length := by omega
      subst this
      rw [List.take_length]
      obtain ⟨n, hn⟩ : ∃ n : Int, n = (l0.flatten.length : Int) := ⟨_, rfl⟩
      rw [← hn]
      have hnb := HM.out
      have hn0 : 0 < n ∧ n ≤ 1000000 := by omega
      have HN := Aside0.mk hn0
      clear hnb hn0 hn
      go_wp2_with (go_at_call 98; refine (Grow_nil n _ HN.out.1 HN.out.2).mono ?_; rintro e w2 ⟨v2, rfl, hR2, hb2⟩; have n0_ := Aside0.mk (Kd.R_lower hR2 (below_size HB.out)); have n1_ := Aside0.mk (below_then HB.out HB.out.size hb2); clear HB hR2 hb2; have HR2 := n0_; have HB := n1_; clear n0_ n1_)
      go_loopg [6, 8, 27] l0.length (fun gg s6 _ s27 wr => ∃ kk : Nat, kk ≤ l0.length ∧ l0.length - kk ≤ gg ∧ s27 = .int .i64 kk ∧ Aside0 (Kd.R (Kd.int .i64) 2 wr w.heap.size (fun _ => True) s6 (l0.take kk).flatten) ∧ Aside0 (Below w.heap.size w wr))
      case atStart => exact ⟨0, Nat.zero_le _, by omega, rfl, ⟨by simpa using HR2.out⟩, HB⟩
      case round =>
        clear HB HR2
        obtain ⟨kk, hkk, hg, rfl, HR2, HB⟩ := hrel
        by_cases hlt : kk < l0.length
        · have hltz : (kk : Int) < (l0.length : Int) := by omega
          obtain ⟨ad, A1, c1, e, hx, hc1, hC⟩ := at_sl (Kd.C_below HR0.out HB.out) (kk : Int) (by omega) hltz
          cases e
          rw [Int.toNat_natCast] at hx hc1 hC
          have hfs := flat_step l0 kk hlt
          have hfl := flat_le l0 (kk + 1)
          obtain ⟨y, hy⟩ : ∃ y, y = l0.getD kk [] := ⟨_, rfl⟩
          rw [← hy] at hx hc1 hC hfs
          have hS : (l0.take (kk + 1)).flatten.length = (l0.take kk).flatten.length + y.length := by rw [hfs, List.length_append]
          have hl9 : (l0.take kk).flatten.length + y.length ≤ 1000000 := by have := HM.out; omega
          have FS := Aside0.mk hfs
          have HC := Aside0.mk hC
          have HL := Aside0.mk hl9
          clear hfs hfl hS hy hC hc1 hl9
          go_wp2_with ((with_reducible refine gate_builtin (b := .append) (xs := #[.tmp 31, .tmp 32]) rfl ?_); at_builtin; refine Kd.R_append_rows (Kd.int .i64) (w0 := w) w.heap.size rfl (.tmp 31) (.tmp 32) 22 2 (.int .i64 0) 8 rfl Try.underlying22 HI.out rfl (by decide) (by omega) _ (l0.take kk).flatten y _ _ _ (fun _ => True) (fun _ => False) rfl rfl HR2.out HC.out (fun _ _ h => h) (fun _ h => h.elim) (fun _ _ => trivial) HB.out (below_size HB.out) ?aL ?_; (case aL => have := HL.out; omega); intro v209 w5 ho hb hg hat; have n0_ := Aside0.mk (hb); have n1_ := Aside0.mk (ho); clear HB HR2; have HB := n0_; have HR2 := n1_; clear n0_ n1_ ho hb hg hat)
          go_roundg (l0.length - (kk + 1))
          case measure => omega
          case rel => exact ⟨kk + 1, by omega, by omega, by go_num, ⟨by rw [FS.out]; exact HR2.out⟩, HB⟩
        · have hltz : ¬ (kk : Int) < (l0.length : Int) := by omega
          have : kk = l0.length := by omega
          subst this
          go_wp2
          go_ret
          exact ⟨_, rfl, by simpa using HR2.out, HB.out⟩
end Go.Proofs.Ytfpcfaapoeeipaa.P
