/- Plain laws: what Check and Of answer. -/
import Derived.Test.YtcbakjgplcnpfaaAny
namespace Go.Proofs.Ytcbakjgplcnpfaa.Mine
open Go.RowKit Go.Proofs.YtcbakjgplcnpfaaW.PrintWords Go.Proofs.YtcbakjgplcnpfaaW.PrintLast Go.Proofs.YtcbakjgplcnpfaaW.PrintMore Go.Proofs.Ytcbakjgplcnpfaa.QReplay

theorem wrap_next {i n : Nat} (h : i < n) (hn : n ≤ 400) : wrap64 ((i : Int) + 1) = ((i + 1 : Nat) : Int) := by
  unfold wrap64
  omega

theorem check_tells (l : List S30) (hl : l.length ≤ 400) : ∀ (d i : Nat) (last : Int), i + d = l.length →
    ∃ r, pcap_Check.l0 (2 * d + 1) last l l.length i = some r ∧ (r = 0 → ∀ x ∈ l.drop i, 0 ≤ x.f1 ∧ x.f1 < 16)
  | 0, i, last, h => by
    refine ⟨0, ?_, fun _ => by rw [List.drop_of_length_le (by omega)]; simp⟩
    simp only [pcap_Check.l0]
    rw [if_neg (by omega)]
  | d + 1, i, last, h => by
    have hlt : i < l.length := by omega
    obtain ⟨r, hr, hr0⟩ := check_tells l hl d (i + 1) (rd_T30 l i).f0 (by omega)
    have hx : rd_T30 l i = l[i] := by simp [rd_T30, hlt]
    have hdr : l.drop i = rd_T30 l i :: l.drop (i + 1) := by rw [hx]; exact List.drop_eq_getElem_cons hlt
    obtain ⟨K, hK⟩ : ∃ K, K = 2 * d + 1 := ⟨_, rfl⟩
    have e : 2 * (d + 1) + 1 = K + 1 + 1 := by omega
    rw [← hK] at hr
    rw [e]
    simp only [pcap_Check.l0, pcap_Check.j1]
    rw [if_pos (by omega), if_pos (by omega), if_pos (by omega), wrap_next hlt hl, hr, hdr]
    by_cases h1 : (rd_T30 l i).f1 < 0
    · refine ⟨10, ?_, by simp⟩
      repeat (first | rfl | (split <;> try rfl) )
      all_goals simp_all
    by_cases h2 : (rd_T30 l i).f1 ≥ 16
    · refine ⟨10, ?_, by simp⟩
      repeat (first | rfl | (split <;> try rfl) )
      all_goals simp_all
    · have hin : 0 ≤ (rd_T30 l i).f1 ∧ (rd_T30 l i).f1 < 16 := by omega
      rw [if_neg h1, if_neg h2]
      have key : ∃ r', (if ((rd_T30 l i).f4.size : Int) > 2000 then some 2 else if (rd_T30 l i).f0 < last then some 3 else some r) = some r' ∧ (r' = 0 → r = 0) := by
        split
        · exact ⟨2, rfl, by simp⟩
        · split
          · exact ⟨3, rfl, by simp⟩
          · exact ⟨r, rfl, id⟩
      obtain ⟨r', hk, hk0⟩ := key
      have fin : (r' = 0 → ∀ x ∈ rd_T30 l i :: l.drop (i + 1), 0 ≤ x.f1 ∧ x.f1 < 16) := fun h0 x hx => by
        rcases List.mem_cons.1 hx with rfl | hx
        · exact hin
        · exact hr0 (hk0 h0) x hx
      simp only [if_true]
      split
      · exact ⟨10, rfl, by simp⟩
      · split
        · exact ⟨10, rfl, by simp⟩
        · split
          · exact ⟨10, rfl, by simp⟩
          · split
            · exact ⟨10, rfl, by simp⟩
            · exact ⟨r', hk, fin⟩

theorem of_tells (l : List S30) (hl : l.length ≤ 400) (a : Int) : ∀ (d i : Nat) (out : List S30), i + d = l.length → out.length ≤ i →
    replay_Of.l0 (d + 1) a out l l.length i = some (out ++ (l.drop i).filter (fun x => decide (x.f1 = a)), 0)
  | 0, i, out, h, _ => by
    rw [List.drop_of_length_le (by omega)]
    simp only [replay_Of.l0]
    rw [if_neg (by omega)]
    simp
  | d + 1, i, out, h, ho => by
    have hlt : i < l.length := by omega
    have hx : rd_T30 l i = l[i] := by simp [rd_T30, hlt]
    have hdr : l.drop i = rd_T30 l i :: l.drop (i + 1) := by rw [hx]; exact List.drop_eq_getElem_cons hlt
    rw [replay_Of.l0]
    rw [if_pos (by omega), if_pos (by omega), if_pos (by omega), wrap_next hlt hl, hdr]
    by_cases h1 : (rd_T30 l i).f1 = a
    · rw [if_pos h1, if_pos (by omega), of_tells l hl a d (i + 1) _ (by omega) (by simp; omega)]
      rw [List.filter_cons_of_pos (by simpa using h1)]
      simp
    · rw [if_neg h1, of_tells l hl a d (i + 1) _ (by omega) (by omega)]
      rw [List.filter_cons_of_neg (by simpa using h1)]

theorem check_ev (l : List S30) (hl : l.length ≤ 400) : ∃ r, (∃ k, pcap_Check.f k l = some r) ∧ (r = 0 → ∀ x ∈ l, 0 ≤ x.f1 ∧ x.f1 < 16) := by
  obtain ⟨r, h, h0⟩ := check_tells l hl l.length 0 0 (by omega)
  refine ⟨r, ⟨2 * l.length + 1, ?_⟩, by simpa using h0⟩
  unfold pcap_Check.f
  rw [if_neg (by omega)]
  exact h
theorem of_ev (l : List S30) (hl : l.length ≤ 400) (h : ∃ k, pcap_Check.f k l = some 0) (a : Int) : ∃ k, replay_Of.f k l a = some (l.filter (fun x => decide (x.f1 = a)), 0) := by
  obtain ⟨k, h⟩ := h
  have h2 := of_tells l hl a l.length 0 [] (by omega) (by simp)
  obtain ⟨k', h1', h2'⟩ := together (pcap_Check.mono l) (fun k => replay_Of.mono_l k a [] l l.length 0) ⟨k, h⟩ ⟨_, h2⟩
  refine ⟨k', ?_⟩
  unfold replay_Of.f
  rw [h1', Option.bind_some, if_pos rfl, h2']
  simp

theorem pcapFact_ev : patchbaykeep4_pcapFact.f 40 = some true := by kernel_rfl
theorem replayFact_ev : patchbaykeep4_replayFact.f 40 = some true := by kernel_rfl
end Go.Proofs.Ytcbakjgplcnpfaa.Mine
