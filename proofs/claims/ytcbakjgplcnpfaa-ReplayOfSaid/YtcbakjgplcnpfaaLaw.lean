/- Whatever capture comes in, ReplayOf returns true and leaves the capture as it was. No condition. -/
import Derived.Test.YtcbakjgplcnpfaaRows
import Derived.Test.YtcbakjgplcnpfaaWalk
import Derived.Test.YtcbakjgplcnpfaaOpen
import Derived.WalkKit
import Derived.ProofKit
import Derived.OpenShut
import Derived.ChangeOld
import Derived.Below
import Derived.SizedLaws
namespace Go.Proofs.Ytcbakjgplcnpfaa.Mine
open Go.ChangeShapes Go.WideShapes Go.ChangeAt Go.RowKit Go.Proofs.YtcbakjgplcnpfaaW.PrintWords Go.Proofs.YtcbakjgplcnpfaaW.Open Go.Proofs.Ytcbakjgplcnpfaa.QReplay
set_option linter.unusedVariables false
theorem own : ownKnob Try.prog.godebug = none := by kernel_rfl
theorem laidOut : laidOutB Try.prog = true := by kernel_rfl

theorem opens30 : ∃ wf, Opens Try.prog 30 k30 wf :=
  ⟨_, opens_struct (f := fun x : S30 => (x.f0, x.f1, x.f2, x.f3, x.f4)) Try.underlying30 (by kernel_rfl)
    (opensL_cons (opens_int Try.underlying3) rfl (by kernel_rfl) (by simp [Kd.int, Kd.scalar]) (opensL_cons (opens_int Try.underlying3) rfl (by kernel_rfl) (by simp [Kd.int, Kd.scalar])
      (opensL_cons (opens_int Try.underlying3) rfl (by kernel_rfl) (by simp [Kd.int, Kd.scalar]) (opensL_cons (opens_bool Try.underlying4) rfl (by kernel_rfl) (by simp [Kd.int, Kd.bool, Kd.scalar]) (opensL_one (opens_string Try.underlying9) rfl (by kernel_rfl))))))
    (fun a => ⟨a.1, a.2.1, a.2.2.1, a.2.2.2.1, a.2.2.2.2⟩) (fun _ => rfl)⟩
theorem opens22 : ∃ wf, Opens Try.prog 22 (Kd.slice 30 k30) wf := by
  obtain ⟨wf, h⟩ := opens30
  exact ⟨_, opens_slice Try.underlying22 h (by kernel_rfl)⟩

set_option maxRecDepth 100000 in
theorem lifted (os : Os) (started : os.Started) (H : Type) (enc : TypeId × Value → H) :
    ReturnsInHanded {} Try.checked os 3 .any (Rows.replayOfSpec.pre6 enc Try.prog Try.f3 Rows.replayOfRow.domain false) (Rows.replayOfSpec.post enc Try.prog Try.f3 false true false false) := by
  refine returnsInHanded_of_change_sized (C := Try.checked) own started (by kernel_rfl) Try.func3
    (ChangeSpec.witness6 (enc := enc) (C := Try.checked) false ⟨#[], #[.slice none 0 0], []⟩ 8 (by kernel_rfl) (by kernel_rfl) (by kernel_rfl) (by kernel_rfl)) ?_
  intro W base args ds gs before hval0 hW hcnd hsz0 _
  have hval : ∀ (j : Nat) t v, Try.f3.params[j]? = some t → args[j]? = some v → Value.okWide Try.prog W .any base t v := hval0
  have hW' := hW
  obtain ⟨p, q, hA0, hV, rfl, hfz, hnd⟩ := hW
  have hA : DataW.TrodAll enc Try.prog W 0 (fun _ => true) true Try.f3.params.toList args.toList ds p := hA0
  rw [Try.params3] at hA hval
  obtain ⟨v0, vs0, d0, ds0, p0, q0, hargs, rfl, rfl, h0, r0⟩ := trodAll_cons hA
  obtain ⟨rfl, rfl, rfl⟩ := trodAll_nil r0
  obtain rfl : args = #[v0] := by cases args; simp_all
  obtain ⟨rfl, rfl⟩ := trodVars_none hV
  have k0 := h0
  have lt0 : ∀ x ∈ p0, x.block < W.heap.size := by obtain ⟨m, hm⟩ := k0; exact DataW.trod_lt m _ _ _ hm
  obtain ⟨fuel, hf⟩ := h0
  obtain ⟨wf, ho⟩ := opens22
  obtain ⟨l0, ⟨A0, c0, hcs, hlc, hC⟩, _⟩ := ho enc W 0 _ true fuel _ _ hf
  obtain ⟨a0, len0, cap0, rfl⟩ := okWide_slice Try.underlying22 (hval 0 22 v0 rfl rfl)
  simp [Value.cells] at hcs
  obtain ⟨rfl, rfl, rfl⟩ := hcs
  clear hA0 hval0 hsz0
  refine (law_calls _ _ l0 W hC hlc).mono fun e W' ⟨he, bel⟩ => ?_
  subst he
  exact ⟨_, rfl, _, _, _, [], _, [], hW', trodAll_mk1 (shut_bool Try.underlying4 _), trodAll_mk1 (Below.trod laidOut (by kernel_rfl) (of_decide_eq_true (by kernel_rfl)) k0 bel lt0), rfl, bel.frame _, fun h => by cases h⟩

theorem over : Rows.replayOfRow.holds Try.pinned (OpenSpec.ofChange Rows.replayOfSpec) :=
  OpenClaim.holds_of_wide 3 Try.f3 rfl rfl rfl rfl rfl rfl rfl ⟨rfl, rfl, rfl, rfl, rfl⟩ rfl rfl rfl rfl rfl (by kernel_rfl) Try.func3 (by kernel_rfl)
    (of_decide_eq_true (by kernel_rfl)) (by unfold Func.isWrapper; first | (rw [if_pos (by decide +kernel)]; kernel_rfl) | (rw [if_neg (by decide +kernel)]; exact ⟨rfl, rfl⟩))
    (fun os started H enc _ => lifted os started H enc)
end Go.Proofs.Ytcbakjgplcnpfaa.Mine
namespace Go.Proofs.Ytcbakjgplcnpfaa
/-- The row, under a short name, for the claim. -/
theorem replayOf_holds : Rows.ReplayOfSaid := Mine.over
#print axioms replayOf_holds
end Go.Proofs.Ytcbakjgplcnpfaa
