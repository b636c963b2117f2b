/- Contracts of the package crc: the table of remainders and the checksum. -/
import Derived.Test.YtcbakjgplcnpfaaPReplayOfx
import Derived.Outline
import Derived.Laws.CopyOwn
import Derived.Lib.Hide
namespace Go.Proofs.Ytcbakjgplcnpfaa.Mine
open Go.RowKit Go.Proofs.YtcbakjgplcnpfaaW.PrintWords Go.Proofs.YtcbakjgplcnpfaaW.PrintLast Go.Proofs.YtcbakjgplcnpfaaW.PrintMore Go.Proofs.Ytcbakjgplcnpfaa.PReplayOf

def halfI (c : Int) : Int := if Go.bits .and .u32 c 1 = 1 then Go.bits .xor .u32 (c / 2) 3988292384 else c / 2
def halfN : Nat → Int → Int
  | 0, c => c
  | j + 1, c => halfI (halfN j c)

theorem half_calls (c : Int) (w : World) :
    Calls Try.prog 16 #[.int .u32 c] w fun e w' => e = .returned (.int .u32 (halfI c)) ∧ Drawn0 w w' := by
  refine crc_half.calls c (halfI c) w ?_
  unfold crc_half.f halfI
  split <;> rfl

def tabAt (k i : Nat) : Int := if i < k then halfN 8 i else 0
def tabCells (k : Nat) : Array Value := ((List.range 256).map fun i => Value.int .u32 (tabAt k i)).toArray
def Z256 : Array Value := tabCells 0
theorem zero42 (w : World) : (zeroValue 42).run Try.prog w = .ok (.agg Z256) w := by kernel_rfl
theorem tabCells_size (k : Nat) : (tabCells k).size = 256 := by simp [tabCells]
theorem tabCells_get (k i : Nat) (h : i < 256) : (tabCells k)[i]? = some (.int .u32 (tabAt k i)) := by
  simp [tabCells, h]
theorem tabCells_set (k : Nat) (_h : k < 256) : (tabCells k).setIfInBounds k (.int .u32 (halfN 8 k)) = tabCells (k + 1) := by
  apply Array.ext_getElem?
  intro i
  by_cases hi : i < 256
  · rw [tabCells_get _ i hi, Array.getElem?_setIfInBounds]
    by_cases e : k = i
    · subst e; rw [if_pos rfl, if_pos (by rw [tabCells_size]; omega)]; simp [tabAt]
    · rw [if_neg e, tabCells_get _ i hi]
      unfold tabAt
      by_cases hl : i < k
      · rw [if_pos hl, if_pos (by omega)]
      · rw [if_neg hl, if_neg (by omega)]
  · rw [Array.getElem?_eq_none (by rw [Array.size_setIfInBounds, tabCells_size]; omega), Array.getElem?_eq_none (by rw [tabCells_size]; omega)]

set_option maxHeartbeats 400000 in
set_option maxRecDepth 100000 in
theorem table_calls (w : World) :
    Calls Try.prog 15 #[] w fun e w' => e = .returned (.agg (tabCells 256)) ∧ Below w.heap.size w w' := by
  have hz := zero42
  go_enter Try.func15, Try.ntmps15
  go_wp2
  clear hz
  go_loopw [3] (fun v3 wr => ∃ k : Nat, k ≤ 256 ∧ v3 = .int .i64 k ∧ Aside0 (wr.heap[w.heap.size]? = some (.cells (tabCells k) 42 (0, 0))) ∧ Aside0 (Below w.heap.size w wr)) (fun v3 _ => 256 - (intOf v3).toNat)
  case atStart => exact ⟨0, by omega, rfl, ⟨heap_alloc_new _ _⟩, ⟨(Below.refl _ _).alloc (Nat.le_refl _) _⟩⟩
  case round =>
    obtain ⟨k, hk, rfl, HC, HB⟩ := hrel
    by_cases hlt : k < 256
    · have hd : decide ((k : Int) < 256) = true := decide_eq_true (by omega)
      have HL := Aside0.mk hlt
      clear hlt
      go_wp2
      obtain ⟨wo, rfl⟩ : ∃ wo : World, wo = wr := ⟨_, rfl⟩
      go_loopw [2, 8] (fun v2 v8 wr => ∃ j : Nat, j ≤ 8 ∧ v8 = .int .i64 j ∧ v2 = .int .u32 (halfN j k) ∧ Aside0 (wr.heap[w.heap.size]? = some (.cells (tabCells k) 42 (0, 0))) ∧ Aside0 (Below w.heap.size w wr)) (fun _ v8 _ => 8 - (intOf v8).toNat)
      case atStart => exact ⟨0, by omega, rfl, rfl, HC, HB⟩
      case round =>
        obtain ⟨j, hj, rfl, rfl, HC1, HB1⟩ := hrel
        by_cases hlt : j < 8
        · have hd2 : decide ((j : Int) < 8) = true := decide_eq_true (by omega)
          have HJ := Aside0.mk hlt
          clear hlt
          go_wp2_with (go_at_call 16; refine (half_calls _ _).mono ?_; rintro e w1 ⟨rfl, hdr⟩; have HD := Aside0.mk hdr; clear hdr)
          go_roundw
          case rel => exact ⟨j + 1, HJ.out, by go_num, rfl, ⟨by obtain ⟨n, rfl⟩ := HD.out; exact HC1.out⟩, ⟨below_step HB1.out HD.out.below⟩⟩
          case measure => have := HJ.out; simp [intOf]; omega
        · have hd2 : decide ((j : Int) < 8) = false := decide_eq_false (by omega)
          obtain rfl : j = 8 := by omega
          clear hlt
          have hc := blk_cell HC1.out k
          have hf := blk_frozen HC1.out k
          rw [tabCells_get k k HL.out] at hc
          have hk0 : (k : Int) < 256 := by have := HL.out; omega
          go_wp2
          go_roundw
          case rel => exact ⟨k + 1, by have := HL.out; omega, by go_num, ⟨by rw [← tabCells_set k HL.out]; exact heap_setCell_same _ _ _ _ _ _ HC1.out⟩, ⟨below_set HB1.out (Nat.le_refl _)⟩⟩
          case measure => have := HL.out; simp [intOf]; omega
    · have hd : decide ((k : Int) < 256) = false := decide_eq_false (by omega)
      obtain rfl : k = 256 := by omega
      clear hlt
      have hi : (Try.prog.info? 42).map (·.size) = some (tabCells 256).size := by rw [tabCells_size]; kernel_rfl
      have ho : (tabCells 256).all (·.oneCell') = true := by kernel_rfl
      go_wp2_with (first | refine wpList_load_row rfl 42 (.tmp 0) rfl w.heap.size rfl 42 (tabCells 256) (0, 0) _ HC.out Try.underlying42 rfl hi ?_ | refine wpList_store_row rfl 42 (.tmp 0) (.tmp 17) rfl w.heap.size (tabCells 256) rfl rfl 42 (tabCells 256) HC.out hi rfl ho ?_)
      refine bodyPost_ret (v := .agg (tabCells 256)) (results_cell_row rfl _ _ w.heap.size 42 (tabCells 256) (0, 0) _ rfl (setRow_heap _ _ _ _ _ _ HC.out) Try.underlying42 rfl hi) rfl ⟨rfl, ?_⟩
      exact below_setRow HB.out (Nat.le_refl _) _

/-- One step of the checksum. -/
def sumStep (c b : Int) : Int := Go.bits .xor .u32 (c / 256) (tabAt 256 (Go.bits .xor .u8 (c % 256) b).toNat)
def sumFrom (c : Int) : List UInt8 → Int
  | [] => c
  | b :: r => sumFrom (sumStep c b.toNat) r
def sumI (s : List UInt8) : Int := Go.bits .xor .u32 IntKind.u32.max (sumFrom 4294967295 s)

set_option maxHeartbeats 400000 in
set_option maxRecDepth 100000 in
theorem sum_calls (s : ByteArray) (hs : s.size ≤ maxLen) (w : World) :
    Calls Try.prog 14 #[.string s] w fun e w' => e = .returned (.int .u32 (sumI s.data.toList)) ∧ Below w.heap.size w w' := by
  unfold maxLen at hs
  have hz := zero42
  have hi : (Try.prog.info? 42).map (·.size) = some (tabCells 256).size := by rw [tabCells_size]; kernel_rfl
  have ho : (tabCells 256).all (·.oneCell') = true := by kernel_rfl
  go_enter Try.func14, Try.ntmps14
  go_wp2_with (first | (go_at_call 15; refine (table_calls _).mono ?_; rintro e w1 ⟨rfl, hb⟩; have HB := Aside0.mk hb; clear hb) | refine wpList_store_row rfl 42 (.tmp 4) (.tmp 6) rfl w1.heap.size (tabCells 256) rfl rfl 42 Z256 (heap_alloc_new _ _) hi (by rw [tabCells_size]; rfl) ho ?_)
  clear hz hi ho
  have HT := Aside0.mk (setRow_heap (w1.alloc (.cells Z256 42)) w1.heap.size _ (tabCells 256) _ _ (heap_alloc_new _ _))
  have HB2 := Aside0.mk (below_setRow (HB.out.alloc HB.out.size _) HB.out.size (tabCells 256) : Below w.heap.size w ((w1.alloc (.cells Z256 42)).setRow w1.heap.size (tabCells 256)))
  generalize (w1.alloc (.cells Z256 42)).setRow w1.heap.size (tabCells 256) = w2 at HT HB2 ⊢
  go_loop [3, 9] (fun v3 v9 => ∃ (k : Nat) (c : Int), k ≤ s.size ∧ v9 = .int .i64 k ∧ v3 = .int .u32 c ∧ Aside0 (sumFrom 4294967295 s.data.toList = sumFrom c (s.data.toList.drop k))) (fun _ v9 => s.size - (intOf v9).toNat)
  case atStart => exact ⟨0, 4294967295, by omega, rfl, rfl, ⟨rfl⟩⟩
  case round =>
    obtain ⟨k, c, hk, rfl, rfl, HS⟩ := hrel
    by_cases hlt : k < s.size
    · have hd : decide ((k : Int) < (s.size : Int)) = true := decide_eq_true (by omega)
      have hx0 : 0 ≤ Go.bits .xor .u8 (c % 256) s[k].toNat := bits_lo_u8 _ _ _
      have hx1 : Go.bits .xor .u8 (c % 256) s[k].toNat < 256 := by have := bits_hi_u8 .xor (c % 256) s[k].toNat; omega
      have hcell := blk_cell HT.out (Go.bits .xor .u8 (c % 256) s[k].toNat).toNat
      rw [tabCells_get 256 _ (by omega)] at hcell
      have HS' : Aside0 (sumFrom 4294967295 s.data.toList = sumFrom (sumStep c s[k].toNat) (s.data.toList.drop (k + 1))) := ⟨by
        rw [HS.out, List.drop_eq_getElem_cons (by simpa using hlt)]; rfl⟩
      clear HS
      go_wp2
      go_round
      case rel => exact ⟨k + 1, _, by omega, by go_num, rfl, HS'⟩
      case measure => simp [intOf]; omega
    · have hd : decide ((k : Int) < (s.size : Int)) = false := decide_eq_false (by omega)
      have hsg : IntKind.u32.signed = false := rfl
      have HE : Aside0 (sumFrom 4294967295 s.data.toList = c) := ⟨by rw [HS.out, List.drop_of_length_le (by simp; omega)]; rfl⟩
      go_wp2
      go_ret
      exact ⟨by unfold sumI; rw [HE.out]; rfl, HB2.out⟩
end Go.Proofs.Ytcbakjgplcnpfaa.Mine
