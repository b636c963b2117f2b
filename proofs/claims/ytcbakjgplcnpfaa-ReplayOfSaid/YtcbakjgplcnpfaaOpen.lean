/- What a datum that can be read says of memory: the kinds of the print's words. -/
import Derived.Test.YtcbakjgplcnpfaaWMore
import Derived.Test.YtcbakjgplcnpfaaWWords
import Derived.ChangeArms
import Derived.WalkKit
namespace Go.Proofs.YtcbakjgplcnpfaaW.Open
open Go.RowKit Go.Proofs.YtcbakjgplcnpfaaW.PrintWords Go.Proofs.YtcbakjgplcnpfaaW.PrintLast
set_option linter.unusedVariables false

/-- Whatever reads as type T is of kind kd, and meets wf. -/
def Opens {α : Type} (P : Program) (T : TypeId) (kd : Kd α) (wf : α → Prop) : Prop :=
  ∀ {H : Type} (enc : TypeId × Value → H) (w : World) (base : Nat) (spare : Nat → Bool) (held : Bool) (fuel : Nat) (cs : List Value) (x : DataW H × List MemPlace),
    DataW.trod enc P w base spare held fuel T cs = some x → ∃ a, kd.K w a cs ∧ wf a

theorem opens_int {P : Program} {T : TypeId} {k : IntKind} (ht : P.underlying T = some (.int k)) : Opens P T (Kd.int k) (fun n => (Lit.int k n).wf = true) := by
  intro H enc w base spare held fuel cs x h
  obtain ⟨n, rfl, _, hw⟩ := DataW.trod_int ht h
  exact ⟨n, rfl, hw⟩
theorem opens_bool {P : Program} {T : TypeId} (ht : P.underlying T = some .bool) : Opens P T Kd.bool (fun _ => True) := by
  intro H enc w base spare held fuel cs x h
  obtain ⟨b, rfl, _⟩ := DataW.trod_bool ht h
  exact ⟨b, rfl, trivial⟩
theorem opens_string {P : Program} {T : TypeId} (ht : P.underlying T = some .string) : Opens P T Kd.string (fun s => s.size ≤ maxLen) := by
  intro H enc w base spare held fuel cs x h
  obtain ⟨s, rfl, _, hw⟩ := DataW.trod_string ht h
  exact ⟨s, rfl, hw⟩

/-- The fields of a struct, from offset off on. -/
def OpensL {α : Type} (P : Program) (off : Nat) (fs : List Field) (kd : Kd α) (wf : α → Prop) : Prop :=
  ∀ {H : Type} (enc : TypeId × Value → H) (w : World) (base : Nat) (spare : Nat → Bool) (held : Bool) (fuel : Nat) (cs : List Value), cs.length = kd.sz →
    (∀ f, f ∈ fs → ∃ x, DataW.trod enc P w base spare held fuel f.type ((cs.drop (f.offset - off)).take (P.cellsOf f.type)) = some x) → ∃ a, kd.K w a cs ∧ wf a

theorem opensL_one {α : Type} {P : Program} {off : Nat} {f : Field} {kd : Kd α} {wf : α → Prop} (h : Opens P f.type kd wf) (ho : f.offset = off) (hs : P.cellsOf f.type = kd.sz) : OpensL P off [f] kd wf := by
  intro H enc w base spare held fuel cs hl hf
  obtain ⟨x, hx⟩ := hf f (by simp)
  rw [ho, Nat.sub_self, List.drop_zero, hs, List.take_of_length_le (by omega)] at hx
  exact h enc w base spare held fuel cs x hx
theorem opensL_cons {α β : Type} {P : Program} {off : Nat} {f : Field} {fs : List Field} {kd : Kd α} {ke : Kd β} {wf : α → Prop} {wg : β → Prop}
    (h : Opens P f.type kd wf) (ho : f.offset = off) (hs : P.cellsOf f.type = kd.sz) (hge : ∀ g ∈ fs, off + kd.sz ≤ g.offset) (h2 : OpensL P (off + kd.sz) fs ke wg) :
    OpensL P off (f :: fs) (Kd.pair kd ke) (fun p => wf p.1 ∧ wg p.2) := by
  intro H enc w base spare held fuel cs hl hf
  have hl' : cs.length = kd.sz + ke.sz := hl
  obtain ⟨x, hx⟩ := hf f (by simp)
  rw [ho, Nat.sub_self, List.drop_zero, hs] at hx
  obtain ⟨a, ha, hwa⟩ := h enc w base spare held fuel _ x hx
  obtain ⟨b, hb, hwb⟩ := h2 enc w base spare held fuel (cs.drop kd.sz) (by rw [List.length_drop]; omega) (fun g hg => by
    obtain ⟨y, hy⟩ := hf g (by simp [hg])
    refine ⟨y, ?_⟩
    rw [List.drop_drop, show kd.sz + (g.offset - (off + kd.sz)) = g.offset - off from by have := hge g hg; omega]
    exact hy)
  exact ⟨(a, b), ⟨_, _, (List.take_append_drop kd.sz cs).symm, ha, hb⟩, hwa, hwb⟩
theorem opens_struct {α β : Type} {P : Program} {T : TypeId} {fs : Array Field} {kd : Kd α} {wf : α → Prop} (ht : P.underlying T = some (.struct fs)) (hs : P.cellsOf T = kd.sz)
    (h : OpensL P 0 fs.toList kd wf) (f : β → α) (g : α → β) (hfg : ∀ a, f (g a) = a) : Opens P T (Kd.iso kd f) (fun b => wf (f b)) := by
  intro H enc w base spare held fuel cs x hx
  obtain ⟨xs, n, _, _, hl, hn, hall⟩ := DataW.trod_struct ht hx
  obtain ⟨a, ha, hwa⟩ := h enc w base spare held n cs (by rw [hl, hs]) (fun fd hfd => by
    obtain ⟨i, hi, hfi⟩ := List.getElem_of_mem hfd
    have hi' : i < fs.size := by simpa using hi
    have h1 := hall i fd (by rw [← Array.getElem?_toList]; rw [List.getElem?_eq_getElem hi, hfi])
    rw [List.getElem?_eq_getElem (by omega)] at h1
    exact ⟨_, by simpa using h1⟩)
  exact ⟨g a, by show kd.K w (f (g a)) cs; rw [hfg]; exact ha, by show wf (f (g a)); rw [hfg]; exact hwa⟩

theorem cells_some {w : World} {base : Nat} {a : Addr} {n : Nat} {cs : List Value} (h : w.cells? base a n = some cs) : cs.length = n ∧ ∀ i u, cs[i]? = some u → w.cell? (a.add i) = some u := by
  unfold World.cells? at h
  split at h
  · have hl := mapM_some_length h
    simp only [List.length_range] at hl
    refine ⟨hl, fun i u hu => ?_⟩
    have hi : i < n := by
      have := (List.getElem?_eq_some_iff.1 hu).1
      omega
    have := mapM_some_get h i i (by simp [hi])
    rw [this, hu]
  · simp at h
theorem add_add (a : Addr) (i j : Nat) : (a.add i).add j = a.add (i + j) := by
  unfold Addr.add
  split <;> split <;> (try split) <;> simp_all <;> omega

theorem opens_slice {α : Type} {P : Program} {T E : TypeId} {kd : Kd α} {wf : α → Prop} (ht : P.underlying T = some (.slice E)) (hE : Opens P E kd wf) (hs : P.cellsOf E = kd.sz) :
    Opens P T (Kd.slice E kd) (fun l => ∀ x ∈ l, wf x) := by
  intro H enc w base spare held fuel cs x h
  rcases DataW.trod_slice ht h with ⟨rfl, _⟩ | ⟨a, len, cap, elems, rest, n, _, rfl, _, _, hlc, hcm, hel, hall, hsp⟩
  · exact ⟨[], ⟨none, 0, rfl, Nat.le_refl _, Kd.C_nil kd w⟩, by simp⟩
  · have each : ∀ i, i < len → ∃ y c, c.length = kd.sz ∧ kd.K w y c ∧ (∀ j u, c[j]? = some u → w.cell? (a.add (i * kd.sz + j)) = some u) ∧ wf y := by
      intro i hi
      have h1 := hall i hi
      rw [List.getElem?_eq_getElem (by omega)] at h1
      obtain ⟨c, hc, ht⟩ := Option.bind_eq_some_iff.1 h1
      obtain ⟨y, hy, hw⟩ := hE enc w base spare held n c _ ht
      obtain ⟨hl, hcell⟩ := cells_some hc
      refine ⟨y, c, by rw [hl, hs], hy, fun j u hu => ?_, hw⟩
      rw [← hs, ← add_add]
      exact hcell j u hu
    obtain ⟨l, hl, hp⟩ : ∃ l : List α, l.length = len ∧ ∀ i y, l[i]? = some y → ∃ c, c.length = kd.sz ∧ kd.K w y c ∧ (∀ j u, c[j]? = some u → w.cell? (a.add (i * kd.sz + j)) = some u) ∧ wf y := by
      clear hlc hcm hel hall h hsp
      induction len with
      | zero => exact ⟨[], rfl, by simp⟩
      | succ m ih =>
        obtain ⟨l, hl, hp⟩ := ih (fun i hi => each i (by omega))
        obtain ⟨y, c, h1, h2, h3, h4⟩ := each m (by omega)
        refine ⟨l ++ [y], by simp [hl], fun i z hz => ?_⟩
        by_cases hi : i < m
        · rw [List.getElem?_append_left (by omega)] at hz
          exact hp i z hz
        · have him : i = m := by
            have := (List.getElem?_eq_some_iff.1 hz).1
            simp at this
            omega
          subst him
          rw [← hl, List.getElem?_concat_length] at hz
          injection hz with hz
          subst hz
          exact ⟨c, h1, h2, h3, h4⟩
    refine ⟨l, ⟨some a, cap, by rw [hl], by omega, ⟨rfl, by unfold maxLen at hcm; omega, fun _ => ⟨a, rfl, fun j p hj => ?_⟩⟩⟩, fun x hx => ?_⟩
    · obtain ⟨c, h1, h2, h3, _⟩ := hp j p hj
      exact ⟨c, h1, h2, h3⟩
    · obtain ⟨i, hi, rfl⟩ := List.getElem_of_mem hx
      obtain ⟨_, _, _, _, h4⟩ := hp i _ (List.getElem?_eq_getElem hi)
      exact h4
end Go.Proofs.YtcbakjgplcnpfaaW.Open
