/- The law holds of every input of bulk at most the bound. -/
import Derived.Test.YtligainhbdidgaaLw
import Derived.Test.YtligainhbdidgaaCmd3
namespace Go.Proofs.Ytligainhbdidgaa
set_option linter.all false

namespace cmdMirrors
open Go.ChangeShapes Go.WideShapes Go.ChangeAt Go.RowKit
theorem own : ownKnob Try.prog.godebug = none := by kernel_rfl
set_option maxRecDepth 100000 in
theorem contract (H : Type) (enc : TypeId × Value → H) (W : World) (base : Nat) (args : Array Value) (ds gs : List (DataW H)) (before : List MemPlace)
    (hval : ∀ (j : Nat) t v, Try.f11.params[j]? = some t → args[j]? = some v → Value.okWide Try.prog W .any base t v)
    (hW : DataW.Whole enc Try.prog Try.f11.params.toList Rows.cmdMirrorsSpec.vars false W args.toList ds gs before) (hk : Rows.uptoSmall H (ds ++ gs) = true) :
    Calls Try.prog 11 args W fun e W' => ∃ v, e = .returned v ∧ Rows.cmdMirrorsSpec.post enc Try.prog Try.f11 false true false false W args v W' := by
  refine law_contract (tb := 4) (by kernel_rfl) (by kernel_rfl) (shs := [(true, [.int .i64, .int .i64, .int .i64, .str, .str, .str, .str]), (true, [.int .i64, .int .i64, .int .i64, .str, .str, .str, .str]), (false, [.int .i64])]) (by kernel_rfl) rfl rfl (by kernel_rfl) ?_ ?_ H enc W base args ds gs before hval hW hk
  · intro H ds h
    rcases ds with _ | ⟨d2, _ | ⟨d1, _ | ⟨d0, _ | ⟨d, ds⟩⟩⟩⟩ <;> first
      | rfl
      | (exact absurd h (by simp [Try.f11]))
  · intro pss hf hw
    simp only [FitA, FitL, FitP] at hf
    obtain ⟨_, _, rfl, ⟨_, _, rfl, ⟨x0_0, rfl, w0_0⟩, ⟨_, _, rfl, ⟨x0_1, rfl, w0_1⟩, ⟨_, _, rfl, ⟨x0_2, rfl, w0_2⟩, ⟨_, _, rfl, ⟨x0_3, rfl, w0_3⟩, ⟨_, _, rfl, ⟨x0_4, rfl, w0_4⟩, ⟨_, _, rfl, ⟨x0_5, rfl, w0_5⟩, ⟨_, _, rfl, ⟨x0_6, rfl, w0_6⟩, rfl⟩⟩⟩⟩⟩⟩⟩, ⟨_, _, rfl, ⟨_, _, rfl, ⟨x1_0, rfl, w1_0⟩, ⟨_, _, rfl, ⟨x1_1, rfl, w1_1⟩, ⟨_, _, rfl, ⟨x1_2, rfl, w1_2⟩, ⟨_, _, rfl, ⟨x1_3, rfl, w1_3⟩, ⟨_, _, rfl, ⟨x1_4, rfl, w1_4⟩, ⟨_, _, rfl, ⟨x1_5, rfl, w1_5⟩, ⟨_, _, rfl, ⟨x1_6, rfl, w1_6⟩, rfl⟩⟩⟩⟩⟩⟩⟩, ⟨_, _, rfl, ⟨_, _, rfl, ⟨x2_0, rfl, w2_0⟩, rfl⟩, rfl⟩⟩⟩ := hf
    simp only [wtR, wtL, wtP] at hw
    exact v_mirrors ⟨x0_0, x0_1, x0_2, x0_3, x0_4, x0_5, x0_6⟩ ⟨x1_0, x1_1, x1_2, x1_3, x1_4, x1_5, x1_6⟩ x2_0 ⟨r64_wf w0_0, r64_wf w0_1, r64_wf w0_2, by dsimp only; omega, by dsimp only; omega, by dsimp only; omega, by dsimp only; omega⟩ ⟨r64_wf w1_0, r64_wf w1_1, r64_wf w1_2, by dsimp only; omega, by dsimp only; omega, by dsimp only; omega, by dsimp only; omega⟩
set_option maxRecDepth 100000 in
theorem lifted (os : Os) (started : os.Started) (H : Type) (enc : TypeId × Value → H) (F : Stop.Interp) :
    ReturnsInHanded {} Try.checked os 11 .any ((Rows.OpenSpec.upto Rows.cmdMirrorsSpec).pre6 enc Try.prog Try.f11 Rows.cmdMirrorsUptoRow.domain false) (((Rows.OpenSpec.upto Rows.cmdMirrorsSpec).at F).post enc Try.prog Try.f11 false true false false) := by
  refine returnsInHanded_of_cond (C := Try.checked) (s := Rows.OpenSpec.upto Rows.cmdMirrorsSpec) (k := Rows.uptoSmall) rfl own started (by kernel_rfl) Try.func11
    (OpenSpec.witness (enc := enc) (C := Try.checked) (s := Rows.OpenSpec.upto Rows.cmdMirrorsSpec) (k := Rows.uptoSmall) rfl false ⟨#[], #[.agg #[.int .i64 0, .int .i64 0, .int .i64 0, .string .empty, .string .empty, .string .empty, .string .empty], .agg #[.int .i64 0, .int .i64 0, .int .i64 0, .string .empty, .string .empty, .string .empty, .string .empty], .int .i64 0], []⟩ 8 (by kernel_rfl) (by kernel_rfl) (by kernel_rfl)
      (x := ([.agg [.lit (.int .i64 0), .lit (.int .i64 0), .lit (.int .i64 0), .lit (.string []), .lit (.string []), .lit (.string []), .lit (.string [])], .agg [.lit (.int .i64 0), .lit (.int .i64 0), .lit (.int .i64 0), .lit (.string []), .lit (.string []), .lit (.string []), .lit (.string [])], .lit (.int .i64 0)], [], [])) (by kernel_rfl) rfl (by kernel_rfl)) ?_
  intro W base args ds gs before hval hW _ hk _
  exact contract H enc W base args ds gs before hval hW hk
theorem over : Rows.cmdMirrorsUptoRow.holds Try.pinned (Rows.OpenSpec.upto Rows.cmdMirrorsSpec) :=
  OpenClaim.holds_of_cond 11 Try.f11 rfl rfl rfl rfl rfl rfl rfl ⟨rfl, rfl, rfl, rfl, rfl⟩ rfl rfl rfl rfl rfl (by kernel_rfl) Try.func11 (by kernel_rfl)
    (of_decide_eq_true (by kernel_rfl)) (by unfold Func.isWrapper; first | (rw [if_pos (by decide +kernel)]; kernel_rfl) | (rw [if_neg (by decide +kernel)]; exact ⟨rfl, rfl⟩))
    (fun os started H enc _ F => lifted os started H enc F)
/-- The statement of the law. -/
theorem proved : Rows.CmdMirrorsUptoSaid := over
end cmdMirrors
end Go.Proofs.Ytligainhbdidgaa
