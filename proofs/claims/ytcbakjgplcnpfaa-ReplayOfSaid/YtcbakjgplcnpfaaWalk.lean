/- The walk of ReplayOf: it returns true. -/
import Derived.Test.YtcbakjgplcnpfaaPlain
namespace Go.Proofs.Ytcbakjgplcnpfaa.Mine
open Go.RowKit Go.Proofs.YtcbakjgplcnpfaaW.PrintWords Go.Proofs.YtcbakjgplcnpfaaW.PrintLast Go.Proofs.YtcbakjgplcnpfaaW.PrintMore Go.Proofs.Ytcbakjgplcnpfaa.QReplay
attribute [local go_sem] max2_int min2_int max_two min_two
set_option linter.unusedVariables false

theorem pcapFact_calls (w : World) : Calls Try.prog 5 #[] w fun e w' => e = .returned (.bool true) ∧ Below w.heap.size w w' := patchbaykeep4_pcapFact.calls 40 true w pcapFact_ev
theorem replayFact_calls (w : World) : Calls Try.prog 9 #[] w fun e w' => e = .returned (.bool true) ∧ Below w.heap.size w w' := patchbaykeep4_replayFact.calls 40 true w replayFact_ev

/-- How many frames are of a node below k. -/
def sums (l : List S30) : Nat → Nat
  | 0 => 0
  | k + 1 => sums l k + (l.filter (fun x => decide (x.f1 = (k : Int)))).length

theorem sums_le (l : List S30) : ∀ k, sums l k ≤ k * l.length
  | 0 => by simp [sums]
  | k + 1 => by
    have := sums_le l k
    have := List.length_filter_le (fun x : S30 => decide (x.f1 = (k : Int))) l
    simp only [sums, Nat.add_mul]
    omega
theorem sums_count (l : List S30) (k : Nat) (h : ∀ x ∈ l, 0 ≤ x.f1) : sums l k = (l.filter (fun x => decide (x.f1 < (k : Int)))).length := by
  induction k with
  | zero =>
    rw [sums, List.filter_eq_nil_iff.2]
    · rfl
    · intro x hx; have := h x hx; simp; omega
  | succ k ih =>
    rw [sums, ih]
    clear ih
    induction l with
    | nil => rfl
    | cons x r ih =>
      have hx := h x (by simp)
      have := ih (fun y hy => h y (by simp [hy]))
      simp only [List.filter_cons]
      by_cases h1 : x.f1 < (k : Int)
      · rw [if_pos (by simpa using h1), if_neg (by simp; omega), if_pos (by simp; omega)]
        simp only [List.length_cons]; omega
      · by_cases h2 : x.f1 = (k : Int)
        · rw [if_neg (by simpa using h1), if_pos (by simpa using h2), if_pos (by simp; omega)]
          simp only [List.length_cons]; omega
        · rw [if_neg (by simpa using h1), if_neg (by simpa using h2), if_neg (by simp; omega)]
          exact this
theorem sums_all (l : List S30) (h : ∀ x ∈ l, 0 ≤ x.f1 ∧ x.f1 < 16) : sums l 16 = l.length := by
  rw [sums_count l 16 (fun x hx => (h x hx).1), List.filter_eq_self.2]
  intro x hx
  have := h x hx
  simp
  omega
theorem any_other (l : List S30) (k : Int) : (l.filter (fun x => decide (x.f1 = k))).any (other k) = false := by
  rw [List.any_eq_false]
  intro x hx
  simp [other, List.mem_filter] at hx ⊢
  exact hx.2

set_option maxHeartbeats 1600000 in
set_option maxRecDepth 100000 in
theorem law_calls (A0 : Option Addr) (c0 : Nat) (l0 : List S30) (w : World) (hr0 : Kd.C k30 w A0 l0.length l0) (hc0 : l0.length ≤ c0) :
    Calls Try.prog 3 #[.slice A0 l0.length c0] w fun e w' => e = .returned (.bool true) ∧ Below w.heap.size w w' := by
  have hmn : (min l0.length 30) ≤ l0.length := Nat.min_le_left _ _
  obtain ⟨l1, hl1⟩ : ∃ l1, l1 = l0.take (min l0.length 30) := ⟨_, rfl⟩
  have hle : l1.length = min l0.length 30 := by rw [hl1, List.length_take]; omega
  have HR := Aside0.mk (by rw [hl1]; exact Kd.C_take hr0 hmn : Kd.C k30 w A0 l1.length l1)
  have HLE := Aside0.mk hle
  have HC0 := Aside0.mk hc0

  clear hl1 hmn hr0 hle hc0
  go_enter Try.func3, Try.ntmps3
  go_upto_region 1 with (fail)
  go_cut [0] (fun v0 wc => v0 = .slice A0 l1.length c0 ∧ wc = w)
  case first =>
    have hc0 := HC0.out
    have hcI : (l0.length : Int) ≤ (c0 : Int) := by omega
    by_cases h30 : l0.length ≤ 30
    · have hd : (l0.length : Int) ≤ 30 := by omega
      have HE : Aside0 (l1.length = l0.length) := ⟨by rw [HLE.out]; omega⟩
      clear h30
      go_wp2_with (fail)
      go_meet
      exact ⟨by rw [HE.out], rfl⟩
    · have hd : ¬ (l0.length : Int) ≤ 30 := by omega
      have hd2 : (30 : Int) ≤ (c0 : Int) := by omega
      have HE : Aside0 (l1.length = 30) := ⟨by rw [HLE.out]; omega⟩
      clear h30
      go_wp2_with (fail)
      go_meet
      exact ⟨by rw [HE.out], rfl⟩
  case rest =>
    obtain ⟨rfl, rfl⟩ := hcut
    have HL1 : Aside0 (l1.length ≤ 30) := ⟨by rw [HLE.out]; omega⟩
    have HC1 : Aside0 (l1.length ≤ c0) := ⟨by have := HLE.out; have := HC0.out; omega⟩
    clear HLE HC0
    obtain ⟨e, hchk, hnode⟩ := check_ev l1 (by have := HL1.out; omega)
    have HN := Aside0.mk hnode
    by_cases he : e = 0
    · subst he
      have HX := Aside0.mk hchk
      have HO := Aside0.mk (of_ev l1 (by have := HL1.out; omega) hchk)
      obtain ⟨k, hk⟩ := hchk
      have HK := Aside0.mk hk
      clear hk hnode
      go_wp2_with (go_at_call 4; refine (pcap_Check.calls k _ _ l1 0 _ HR.out HC1.out HK.out).mono ?_; rintro e w1 ⟨rfl, hb⟩; have HB := Aside0.mk hb; clear hb)
      go_loopw [3, 16] (fun v3 v16 wr => ∃ k : Nat, k ≤ 16 ∧ v16 = .int .i64 k ∧ v3 = .int .i64 (sums l1 k) ∧ Aside0 (Below wc.heap.size wc wr)) (fun _ v16 _ => 16 - (intOf v16).toNat)
      case atStart => exact ⟨0, by omega, rfl, rfl, HB⟩
      case round =>
        clear HB
        obtain ⟨n, hn, rfl, rfl, HB⟩ := hrel
        by_cases hlt : n < 16
        · have hd : decide ((n : Int) < 16) = true := decide_eq_true (by omega)
          obtain ⟨k2, hk2⟩ := HO.out n
          have HK2 := Aside0.mk hk2
          have HLT := Aside0.mk hlt
          have hsum : (sums l1 n : Int) + ((l1.filter (fun x => decide (x.f1 = (n : Int)))).length : Int) ≤ 1000 := by
            have h1 := sums_le l1 (n + 1)
            have h2 := HL1.out
            have h3 : (n + 1) * l1.length ≤ 16 * 30 := Nat.mul_le_mul (by omega) h2
            simp only [sums] at h1
            omega
          have HS : Aside0 (sums l1 (n + 1) = sums l1 n + (l1.filter (fun x => decide (x.f1 = (n : Int)))).length) := ⟨rfl⟩
          have ha := any_other l1 n
          generalize (l1.filter (fun x => decide (x.f1 = (n : Int)))) = f1 at hsum HS ha HK2
          generalize sums l1 n = sn at hsum HS
          have hn1 : (n : Int) + 1 ≤ 16 := by omega
          clear hk2 hlt hn
          go_wp2_with (first | (go_at_call 6; refine (replay_Of.calls k2 _ _ l1 n f1 0 _ (Kd.C_alloc (Kd.C_below HR.out HB.out) _) HC1.out HK2.out).mono ?_; rintro e w2 ⟨v0, rfl, hR, hb⟩; have HB2 := Aside0.mk hb; have HRR := Aside0.mk hR; clear hb hR; obtain ⟨Ao, co, rfl⟩ := Kd.R_slice HRR.out) | (go_at_call 7; refine (contains_calls _ _ f1 n _ _ (Kd.R_reads' HRR.out).2.2 (Kd.R_reads' HRR.out).2.1 (by rw [HB2.out.block _ (by simp)]; exact heap_alloc_new _ _)).mono ?_; rintro e w3 ⟨rfl, hb⟩; have HB3 := Aside0.mk hb; clear hb))
          go_roundw
          case rel => exact ⟨n + 1, HLT.out, by go_num, by rw [HS.out]; go_num, ⟨below_step (below_step (HB.out.alloc HB.out.size _) HB2.out) HB3.out⟩⟩
          case measure => have := HLT.out; simp [intOf]; omega
        · have hd : decide ((n : Int) < 16) = false := decide_eq_false (by omega)
          obtain rfl : n = 16 := by omega
          clear hlt
          have hse : ((sums l1 16 : Int) == (l1.length : Int)) = true := by rw [sums_all l1 (HN.out trivial)]; simp
          go_wp2_with (first | (go_at_call 5; refine (pcapFact_calls _).mono ?_; rintro e w2 ⟨rfl, hb⟩; have HB2 := Aside0.mk hb; clear hb) | (go_at_call 9; refine (replayFact_calls _).mono ?_; rintro e w3 ⟨rfl, hb⟩; have HB3 := Aside0.mk hb; clear hb))
          go_ret
          exact ⟨rfl, below_step (below_step HB.out HB2.out) HB3.out⟩
    · obtain ⟨k, hk⟩ := hchk
      have HK := Aside0.mk hk
      have he1 : (e != 0) = true := bne_iff_ne.mpr he
      have he2 : (e == 0) = false := beq_eq_false_iff_ne.mpr he
      clear hk hnode he
      go_wp2_with (first | (go_at_call 4; refine (pcap_Check.calls k _ _ l1 e _ HR.out HC1.out HK.out).mono ?_; rintro e w1 ⟨rfl, hb⟩; have HB := Aside0.mk hb; clear hb) | (go_at_call 5; refine (pcapFact_calls _).mono ?_; rintro e w2 ⟨rfl, hb⟩; have HB2 := Aside0.mk hb; clear hb))
      go_ret
      exact ⟨rfl, below_step HB.out HB2.out⟩
end Go.Proofs.Ytcbakjgplcnpfaa.Mine
