/- The law holds of every input of bulk at most the bound. -/
import Derived.Test.YtligainhbdidgaaLw
import Derived.Test.YtligainhbdidgaaCmd3
namespace Go.Proofs.Ytligainhbdidgaa
set_option linter.all false

namespace cmdSpans
open Go.ChangeShapes Go.WideShapes Go.ChangeAt Go.RowKit
theorem own : ownKnob Try.prog.godebug = none := by kernel_rfl
set_option maxRecDepth 100000 in
theorem contract (H : Type) (enc : TypeId × Value → H) (W : World) (base : Nat) (args : Array Value) (ds gs : List (DataW H)) (before : List MemPlace)
    (hval : ∀ (j : Nat) t v, Try.f12.params[j]? = some t → args[j]? = some v → Value.okWide Try.prog W .any base t v)
    (hW : DataW.Whole enc Try.prog Try.f12.params.toList Rows.cmdSpansSpec.vars false W args.toList ds gs before) (hk : Rows.uptoSmall H (ds ++ gs) = true) :
    Calls Try.prog 12 args W fun e W' => ∃ v, e = .returned v ∧ Rows.cmdSpansSpec.post enc Try.prog Try.f12 false true false false W args v W' := by
  refine law_contract (tb := 4) (by kernel_rfl) (by kernel_rfl) (shs := [(false, [.str]), (false, [.str]), (false, [.str]), (false, [.int .i64])]) (by kernel_rfl) rfl rfl (by kernel_rfl) ?_ ?_ H enc W base args ds gs before hval hW hk
  · intro H ds h
    rcases ds with _ | ⟨d3, _ | ⟨d2, _ | ⟨d1, _ | ⟨d0, _ | ⟨d, ds⟩⟩⟩⟩⟩ <;> first
      | rfl
      | (exact absurd h (by simp [Try.f12]))
  · intro pss hf hw
    simp only [FitA, FitL, FitP] at hf
    obtain ⟨_, _, rfl, ⟨_, _, rfl, ⟨x0_0, rfl, w0_0⟩, rfl⟩, ⟨_, _, rfl, ⟨_, _, rfl, ⟨x1_0, rfl, w1_0⟩, rfl⟩, ⟨_, _, rfl, ⟨_, _, rfl, ⟨x2_0, rfl, w2_0⟩, rfl⟩, ⟨_, _, rfl, ⟨_, _, rfl, ⟨x3_0, rfl, w3_0⟩, rfl⟩, rfl⟩⟩⟩⟩ := hf
    simp only [wtR, wtL, wtP] at hw
    exact v_spans x0_0 x1_0 x2_0 x3_0 (by omega) (by omega) (r64_wf w3_0)
set_option maxRecDepth 100000 in
theorem lifted (os : Os) (started : os.Started) (H : Type) (enc : TypeId × Value → H) (F : Stop.Interp) :
    ReturnsInHanded {} Try.checked os 12 .any ((Rows.OpenSpec.upto Rows.cmdSpansSpec).pre6 enc Try.prog Try.f12 Rows.cmdSpansUptoRow.domain false) (((Rows.OpenSpec.upto Rows.cmdSpansSpec).at F).post enc Try.prog Try.f12 false true false false) := by
  refine returnsInHanded_of_cond (C := Try.checked) (s := Rows.OpenSpec.upto Rows.cmdSpansSpec) (k := Rows.uptoSmall) rfl own started (by kernel_rfl) Try.func12
    (OpenSpec.witness (enc := enc) (C := Try.checked) (s := Rows.OpenSpec.upto Rows.cmdSpansSpec) (k := Rows.uptoSmall) rfl false ⟨#[], #[.string .empty, .string .empty, .string .empty, .int .i64 0], []⟩ 8 (by kernel_rfl) (by kernel_rfl) (by kernel_rfl)
      (x := ([.lit (.string []), .lit (.string []), .lit (.string []), .lit (.int .i64 0)], [], [])) (by kernel_rfl) rfl (by kernel_rfl)) ?_
  intro W base args ds gs before hval hW _ hk _
  exact contract H enc W base args ds gs before hval hW hk
theorem over : Rows.cmdSpansUptoRow.holds Try.pinned (Rows.OpenSpec.upto Rows.cmdSpansSpec) :=
  OpenClaim.holds_of_cond 12 Try.f12 rfl rfl rfl rfl rfl rfl rfl ⟨rfl, rfl, rfl, rfl, rfl⟩ rfl rfl rfl rfl rfl (by kernel_rfl) Try.func12 (by kernel_rfl)
    (of_decide_eq_true (by kernel_rfl)) (by unfold Func.isWrapper; first | (rw [if_pos (by decide +kernel)]; kernel_rfl) | (rw [if_neg (by decide +kernel)]; exact ⟨rfl, rfl⟩))
    (fun os started H enc _ F => lifted os started H enc F)
/-- The statement of the law. -/
theorem proved : Rows.CmdSpansUptoSaid := over
end cmdSpans
end Go.Proofs.Ytligainhbdidgaa
