/- A []byte that begins as a converted constant and is appended to: what it reads, and the laws of its operations. -/
import Derived.Test.YtcbakjgplcnpfaaCrc
import Derived.Lib.SlBytesConst
namespace Go.Proofs.Ytcbakjgplcnpfaa.Mine
open Go.RowKit Go.Proofs.YtcbakjgplcnpfaaW.PrintWords Go.Proofs.YtcbakjgplcnpfaaW.PrintLast Go.Proofs.YtcbakjgplcnpfaaW.PrintMore Go.Proofs.Ytcbakjgplcnpfaa.PReplayOf
set_option linter.unusedVariables false

/-- The slice v reads as the bytes xs: a row of the call's own, or a full row that a conversion has marked. -/
def BR (w : World) (B : Nat) (v : Value) (xs : List Int) : Prop :=
  w.ownsRow B 5 1 v xs.length (nums .u8 xs) ∨
  ∃ g fr, v = .slice (some ⟨g, 0, none⟩) xs.length xs.length ∧ B ≤ g ∧ w.heap[g]? = some (.cells (nums .u8 xs).toArray 5 fr)

theorem ownsRow_below {w w1 : World} {B n : Nat} {v : Value} {xs : List Value} (hb : Below w.heap.size w w1) (h : w.ownsRow B 5 1 v n xs) : w1.ownsRow B 5 1 v n xs := by
  refine ⟨h.1, h.2.imp id ?_⟩
  rintro ⟨g, cap, cur, rfl, hB, hg, r⟩
  exact ⟨g, cap, cur, rfl, hB, by rw [hb.block g (blk_lt hg)]; exact hg, r⟩
theorem br_below {w w1 : World} {B : Nat} {v : Value} {xs : List Int} (hb : Below w.heap.size w w1) (h : BR w B v xs) : BR w1 B v xs := by
  rcases h with h | ⟨g, fr, rfl, hB, hg⟩
  · exact .inl (ownsRow_below hb h)
  · exact .inr ⟨g, fr, rfl, hB, by rw [hb.block g (blk_lt hg)]; exact hg⟩
/-- Block q, if it holds cells, holds no bytes. -/
def NotB (w : World) (q : Nat) : Prop := ∀ c e fr, w.heap[q]? = some (.cells c e fr) → e ≠ 5
theorem notB_of {w : World} {q : Nat} {cs : Array Value} {t : TypeId} {fr : Nat × Nat} (hq : w.heap[q]? = some (.cells cs t fr)) (ht : t ≠ 5) : NotB w q := by
  intro c e fr h
  rw [hq] at h
  injection h with h
  injection h with _ h _
  exact h ▸ ht
theorem NotB.set {w : World} {q i : Nat} {u : Value} (h : NotB w q) : NotB (w.setCell ⟨q, i, none⟩ u) q := by
  intro c e fr hc
  simp only [World.setCell, Array.getElem?_modify, if_true] at hc
  cases hw : w.heap[q]? with
  | none => simp [hw] at hc
  | some o =>
    cases o with
    | cells c2 e2 fr2 =>
      rw [hw] at hc
      simp only [Option.map_some, Option.some.injEq, Obj.cells.injEq] at hc
      have := h _ _ _ hw
      rw [hc.2.1] at this
      exact this
    | _ => simp [hw] at hc
theorem br_far {w : World} {B : Nat} {v : Value} {xs : List Int} (h : BR w B v xs) {q : Nat} (hq : NotB w q) (i : Nat) (u : Value) : BR (w.setCell ⟨q, i, none⟩ u) B v xs := by
  have hne : ∀ g c e fr, w.heap[g]? = some (.cells c e fr) → e = 5 → g ≠ q := by
    rintro g c e fr hg rfl rfl
    exact hq _ _ _ hg rfl
  rcases h with h | ⟨g, fr, rfl, hB, hg⟩
  · refine .inl ⟨h.1, h.2.imp id ?_⟩
    rintro ⟨g, cap, cur, rfl, hB, hg, r⟩
    exact ⟨g, cap, cur, rfl, hB, by rw [heap_setCell_other _ _ _ _ (hne _ _ _ _ hg rfl)]; exact hg, r⟩
  · exact .inr ⟨g, fr, rfl, hB, by rw [heap_setCell_other _ _ _ _ (hne _ _ _ _ hg rfl)]; exact hg⟩
theorem br_ne {w : World} {B : Nat} {v : Value} {xs : List Int} (h : BR w B v xs) {q : Nat} {cs : Array Value} {t : TypeId} (hq : w.heap[q]? = some (.cells cs t (0, 0))) (ht : t ≠ 5) : v.ownBlock ≠ some q := by
  rcases h with h | ⟨g, fr, rfl, hB, hg⟩
  · rcases h.2 with ⟨rfl, _⟩ | ⟨g, cap, cur, rfl, hB, hg, r⟩
    · simp [Value.ownBlock]
    · simp only [Value.ownBlock, ne_eq, Option.some.injEq]
      rintro rfl
      rw [hg] at hq
      injection hq with hq
      injection hq with _ hq _
      exact ht hq.symm
  · simp only [Value.ownBlock, ne_eq, Option.some.injEq]
    rintro rfl
    rw [hg] at hq
    injection hq with hq
    injection hq with _ hq _
    exact ht hq.symm
theorem br_base {w : World} {B : Nat} {v : Value} {xs : List Int} (h : BR w B v xs) : ∀ k, v.ownBlock = some k → B ≤ k := by
  rcases h with h | ⟨g, fr, rfl, hB, hg⟩
  · rcases h.2 with ⟨rfl, _⟩ | ⟨g, cap, cur, rfl, hB, hg, r⟩
    · simp [Value.ownBlock]
    · simp only [Value.ownBlock, Option.some.injEq]; rintro k rfl; exact hB
  · simp only [Value.ownBlock, Option.some.injEq]; rintro k rfl; exact hB
theorem br_string {w : World} {B : Nat} {v : Value} {xs : List Int} (h : BR w B v xs) : (convert 36 9 v).run Try.prog w = .ok (.string (strOfNums xs)) w := by
  rcases h with h | ⟨g, fr, rfl, hB, hg⟩
  · exact own_string Try.underlying36 Try.underlying5 Try.underlying9 h
  · refine run_convert_bytes_arg w 36 5 Try.underlying36 Try.underlying5 g 0 xs.length xs.length xs rfl (fun i hi => ?_) 9 Try.underlying9
    rw [Nat.zero_add, cell_of_row w g i _ 5 fr hg]
    simp [nums, hi]

theorem br_append {ops : Array Oper} {rest : List Oper} {o : Oper} {a : Act} {Q : Exit → Act → World → Prop} {w0 W : World} (base : Nat) (hgd : o.guard = none) (s x : Operand)
    (ho : o.op = .call { callee := .builtin .append, args := #[s, x], argTypes := #[36, 9] })
    (v : Value) (xs : List Int) (y : ByteArray) (hs : a.eval s = v) (hx : a.eval x = .string y)
    (HO : BR W base v xs) (HB : Below base w0 W) (hbase : base ≤ W.heap.size) (hl : xs.length + y.size ≤ 140737488355328)
    (h : ∀ v1 w1, BR w1 base v1 (xs ++ bytesOf y) → Below base w0 w1 → W.grownBy w1 v.ownBlock → wpList Try.prog ops Q rest (a.put o.dst v1) w1) :
    wpList Try.prog ops Q (o :: rest) a W := by
  rcases HO with HO | ⟨g, fr, rfl, hB, hg⟩
  · exact print_append_str (w0 := w0) base hgd s x 36 9 5 ho Try.underlying36 Try.underlying9 info5 v xs y hs hx HO HB hbase hl fun v1 w1 h1 h2 h3 => h v1 w1 (.inl h1) h2 h3
  · obtain ⟨i0, hi, hzz⟩ := Option.map_eq_some_iff.1 info5
    simp only [Prod.mk.injEq] at hzz
    obtain ⟨hz0, hz1, hz2⟩ := hzz
    have hnl : (nums .u8 xs).length = xs.length := by simp [nums]
    have hlen : (nums .u8 xs ++ Lib.strCells y).length = (xs ++ bytesOf y).length * 1 := by
      rw [List.length_append, hnl, Lib.strCells_length, List.length_append, bytesOf_length, Nat.mul_one]
    have hcells : nums .u8 (xs ++ bytesOf y) = nums .u8 xs ++ Lib.strCells y := by
      rw [nums_append]
      congr 1
      simp [nums, bytesOf, Lib.strCells]
    have hrun : ∃ v1 w1, (Builtin.append_ #[36, 9] o.type #[.slice (some ⟨g, 0, none⟩) xs.length xs.length, .string y]).run Try.prog W = .ok v1 w1 ∧ BR w1 base v1 (xs ++ bytesOf y) ∧ W.grownBy w1 (some g) := by
      by_cases hy : y.size = 0
      · have he : (Lib.strCells y) = [] := List.eq_nil_of_length_eq_zero (by rw [Lib.strCells_length]; exact hy)
        have hb : bytesOf y = [] := List.eq_nil_of_length_eq_zero (by rw [bytesOf_length]; exact hy)
        have hf := Lib.run_firstCells_string (P := Try.prog) W 1 y
        rw [hy, he] at hf
        refine ⟨.slice (some ⟨g, 0, none⟩) xs.length xs.length, W, ?_, by rw [hb, List.append_nil]; exact .inr ⟨g, fr, rfl, hB, hg⟩, ⟨rfl, rfl, rfl, Nat.le_refl _, fun _ _ _ => rfl⟩⟩
        simp [Builtin.append_, run_underlying Try.underlying36, run_underlying Try.underlying9, sizeOf, typeInfo, hi, hz1, Builtin.lenOf, hy, hf, storeCells]
      · have holds : ∀ j u, (nums .u8 xs)[j]? = some u → W.cell? ((⟨g, 0, none⟩ : Addr).add j) = some u := fun j u hj => by
          have ha : (⟨g, 0, none⟩ : Addr).add j = ⟨g, j, none⟩ := by unfold Addr.add; split <;> simp_all
          rw [ha, cell_of_row W g j _ 5 fr hg]
          simpa using hj
        have hr := Lib.run_append_grow_string (P := Try.prog) W 36 9 o.type 5 i0 (.int .u8 0) Try.underlying36 Try.underlying9 hi hz0 ⟨g, 0, none⟩ xs.length xs.length (nums .u8 xs) (by rw [hz1, hnl, Nat.mul_one]) holds y (by omega) (by omega) (by rw [hz2]; exact growslice_fits (by omega) (by omega))
        have hge := grownCap_ge W (xs.length + y.size) xs.length 5
        have hcm : grownCap W (xs.length + y.size) xs.length 5 ≤ maxLen := grownCap_le_maxLen W (xs.length + y.size) xs.length 5 (by simp only [maxLen]; omega)
        refine ⟨_, _, hr, .inl ⟨by rw [hcells]; exact hlen, .inr ⟨W.heap.size, _, _, by rw [List.length_append, bytesOf_length], hbase, heap_alloc_new W.drew _, by rw [List.length_append, bytesOf_length]; exact hge, hcm, ?_, ?_⟩⟩, ⟨rfl, rfl, rfl, by simp, fun k hk _ => Below.heap_alloc W.drew _ k hk⟩⟩
        · have hz1 : (Value.int IntKind.u8 0).cells.size = 1 := rfl
          simp only [Array.size_append, List.size_toArray, size_zeroCells, hz1, hnl, Lib.strCells_length]
          omega
        · simp only [Array.toList_append, List.append_assoc]
          rw [← List.append_assoc, ← hlen, hcells]
          exact List.take_left
    obtain ⟨v1, w1, hr, h1, h2⟩ := hrun
    refine wpList_plain hgd fun K hK => ?_
    unfold Oper.wp execOp
    simp only [ho, resolve, invoke, builtin, Sem.run_bind, Sem.run_pure, Result.andThen_ok, List.map_toArray, List.map_cons, List.map_nil, hs, hx, hr]
    exact hK _ _ (h v1 w1 h1 (HB.grown h2 hbase (fun k hk => by injection hk with hk; omega)) h2)
end Go.Proofs.Ytcbakjgplcnpfaa.Mine
