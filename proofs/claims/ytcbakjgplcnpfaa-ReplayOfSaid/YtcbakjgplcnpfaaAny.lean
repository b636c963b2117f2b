/- Contracts of slices.IndexFunc and slices.ContainsFunc over captured frames, at the function that asks for another node. -/
import Derived.Test.YtcbakjgplcnpfaaQReplayx
namespace Go.Proofs.Ytcbakjgplcnpfaa.Mine
open Go.RowKit Go.Proofs.YtcbakjgplcnpfaaW.PrintWords Go.Proofs.YtcbakjgplcnpfaaW.PrintLast Go.Proofs.YtcbakjgplcnpfaaW.PrintMore Go.Proofs.Ytcbakjgplcnpfaa.QReplay
set_option linter.unusedVariables false

/-- Where the first element is of which p holds; -1: nowhere. -/
def idxF {α : Type} (p : α → Bool) : List α → Int → Int
  | [], _ => -1
  | x :: r, i => if p x = true then i else idxF p r (i + 1)
theorem idxF_ge {α : Type} (p : α → Bool) : ∀ (l : List α) (i : Int), 0 ≤ i → (decide (0 ≤ idxF p l i)) = l.any p
  | [], i, h => by simp [idxF]
  | x :: r, i, h => by
    unfold idxF
    by_cases hp : p x = true
    · rw [if_pos hp]; simp [hp, h]
    · rw [if_neg hp, idxF_ge p r (i + 1) (by omega)]; simp [hp]

def other (kk : Int) (x : S30) : Bool := x.f1 != kk

set_option maxHeartbeats 400000 in
theorem other_calls (x : S30) (kk : Int) (g : Nat) (w : World) (hg : w.heap[g]? = some (.cells #[.int .i64 kk] 3 (0, 0))) :
    Calls Try.prog 8 #[.agg #[.int .i64 x.f0, .int .i64 x.f1, .int .i64 x.f2, .bool x.f3, .string x.f4], .pointer (some ⟨g, 0, none⟩)] w fun e w' => e = .returned (.bool (other kk x)) ∧ Below w.heap.size w w' := by
  have hc := blk_cell hg 0
  have hlt := blk_lt hg
  go_enter Try.func8, Try.ntmps8
  go_wp2
  go_ret
  exact ⟨rfl, (Below.refl _ _).alloc (Nat.le_refl _) _⟩

set_option maxHeartbeats 800000 in
set_option maxRecDepth 100000 in
theorem index_calls (A0 : Option Addr) (c0 : Nat) (l0 : List S30) (kk : Int) (g : Nat) (w : World) (hr0 : Kd.C k30 w A0 l0.length l0) (hc0 : l0.length ≤ c0)
    (hg : w.heap[g]? = some (.cells #[.int .i64 kk] 3 (0, 0))) :
    Calls Try.prog 11 #[.slice A0 l0.length c0, .func (.func 8) #[] #[.pointer (some ⟨g, 0, none⟩)]] w fun e w' => e = .returned (.int .i64 (idxF (other kk) l0 0)) ∧ Below w.heap.size w w' := by
  have hu30 := Try.underlying30
  have HR0 := Aside0.mk hr0
  have HG := Aside0.mk hg
  have hln : l0.length ≤ 9223372036854775807 := Kd.C_max hr0
  have HL := Aside0.mk hln
  clear hr0 hg hc0 hln
  go_enter Try.func11, Try.ntmps11
  go_wp2
  go_loopw [8] (fun v8 w' => ∃ i : Nat, i ≤ l0.length ∧ v8 = .int .i64 i ∧ Aside0 (idxF (other kk) l0 0 = idxF (other kk) (l0.drop i) i) ∧ Aside0 (Below w.heap.size w w')) (fun v8 _ => l0.length - (intOf v8).toNat)
  case atStart => exact ⟨0, by omega, rfl, ⟨by simp⟩, ⟨Below.refl _ _⟩⟩
  case round =>
    obtain ⟨i, hi, rfl, HS, HB⟩ := hrel
    by_cases hlt : i < l0.length
    · have hd : decide ((i : Int) < (l0.length : Int)) = true := decide_eq_true (by omega)
      have p117 : 0 ≤ (i : Int) := by omega
      have q117 : (i : Int) < (l0.length : Int) := by omega
      obtain ⟨ad, e117, hx0, hx1, hx2, hx3, hx4⟩ := at_T30 HR0.out i p117 q117
      cases e117
      replace hx0 := (HB.out.cell (World.block_lt_of_cell? w _ hx0)).trans hx0
      replace hx1 := (HB.out.cell (World.block_lt_of_cell? w _ hx1)).trans hx1
      replace hx2 := (HB.out.cell (World.block_lt_of_cell? w _ hx2)).trans hx2
      replace hx3 := (HB.out.cell (World.block_lt_of_cell? w _ hx3)).trans hx3
      replace hx4 := (HB.out.cell (World.block_lt_of_cell? w _ hx4)).trans hx4
      simp only [Int.toNat_natCast] at hx0 hx1 hx2 hx3 hx4
      have hxe : rd_T30 l0 i = l0[i] := by simp [rd_T30, hlt]
      have HDR : Aside0 (l0.drop i = rd_T30 l0 i :: l0.drop (i + 1)) := ⟨by rw [hxe]; exact List.drop_eq_getElem_cons hlt⟩
      have HLT := Aside0.mk hlt
      clear hxe hlt
      replace p117 := eq_true p117
      replace q117 := eq_true q117
      have hgw : Aside0 (wr.heap[g]? = some (.cells #[.int .i64 kk] 3 (0, 0))) := ⟨by rw [HB.out.block g (blk_lt HG.out)]; exact HG.out⟩
      have hbd : (i : Int) + 1 ≤ 9223372036854775807 := by have := HL.out; have := HLT.out; omega
      by_cases hp : other kk (rd_T30 l0 i) = true
      · go_wp2_with (go_at_call 8; refine (other_calls (rd_T30 l0 i) kk g _ hgw.out).mono ?_; rintro e w1 ⟨rfl, hb⟩; have HB1 := Aside0.mk hb; clear hb)
        go_ret
        exact ⟨by rw [HS.out, HDR.out, idxF, if_pos hp]; rfl, below_step HB.out HB1.out⟩
      · have hp' : other kk (rd_T30 l0 i) = false := by simpa using hp
        clear hp
        go_wp2_with (go_at_call 8; refine (other_calls (rd_T30 l0 i) kk g _ hgw.out).mono ?_; rintro e w1 ⟨rfl, hb⟩; have HB1 := Aside0.mk hb; clear hb)
        go_roundw
        case rel => exact ⟨i + 1, HLT.out, by go_num, ⟨by rw [HS.out, HDR.out, idxF, if_neg (by rw [hp']; simp)]; rfl⟩, ⟨below_step HB.out HB1.out⟩⟩
        case measure => have := HLT.out; simp [intOf]; omega
    · have hd : decide (i < l0.length) = false := decide_eq_false (by omega)
      have HE : Aside0 (idxF (other kk) l0 0 = -1) := ⟨by rw [HS.out, List.drop_of_length_le (by omega)]; rfl⟩
      clear hlt
      go_wp2
      go_ret
      exact ⟨by rw [HE.out]; rfl, HB.out⟩

set_option maxHeartbeats 800000 in
theorem contains_calls (A0 : Option Addr) (c0 : Nat) (l0 : List S30) (kk : Int) (g : Nat) (w : World) (hr0 : Kd.C k30 w A0 l0.length l0) (hc0 : l0.length ≤ c0)
    (hg : w.heap[g]? = some (.cells #[.int .i64 kk] 3 (0, 0))) :
    Calls Try.prog 7 #[.slice A0 l0.length c0, .func (.func 8) #[] #[.pointer (some ⟨g, 0, none⟩)]] w fun e w' => e = .returned (.bool (l0.any (other kk))) ∧ Below w.heap.size w w' := by
  have H := Aside0.mk (index_calls A0 c0 l0 kk g w hr0 hc0 hg)
  have HG := Aside0.mk (idxF_ge (other kk) l0 0 (by omega))
  clear hr0 hc0 hg
  go_enter Try.func7, Try.ntmps7
  go_wp2_with (go_at_call 11; refine H.out.mono ?_; rintro e w1 ⟨rfl, hb⟩; have HB1 := Aside0.mk hb; clear hb)
  go_ret
  exact ⟨by rw [← HG.out]; rfl, HB1.out⟩
end Go.Proofs.Ytcbakjgplcnpfaa.Mine
