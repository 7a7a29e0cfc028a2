/- The law holds of every input of bulk at most the bound. -/
import Derived.Test.YtijknhdaipnjaaaLk13s
namespace Go.Proofs.Ytijknhdaipnjaaa
set_option linter.all false

namespace stateAny
open Go.ChangeShapes Go.WideShapes Go.ChangeAt Go.RowKit
theorem own : ownKnob Try.prog.godebug = none := by kernel_rfl
set_option maxRecDepth 100000 in
theorem contract (H : Type) (enc : TypeId × Value → H) (W : World) (base : Nat) (args : Array Value) (ds gs : List (DataW H)) (before : List MemPlace)
    (hval : ∀ (j : Nat) t v, Try.f8.params[j]? = some t → args[j]? = some v → Value.okWide Try.prog W .any base t v)
    (hW : DataW.Whole enc Try.prog Try.f8.params.toList Rows.stateAnySpec.vars false W args.toList ds gs before) (hk : Rows.uptoSmall H (ds ++ gs) = true) :
    Calls Try.prog 8 args W fun e W' => ∃ v, e = .returned v ∧ Rows.stateAnySpec.post enc Try.prog Try.f8 false true false false W args v W' := by
  refine law_contract (tb := 4) (by kernel_rfl) (by kernel_rfl) (shs := [(true, [.slc [.str, .str, .int .i64], .int .i64, .int .i64, .bool, .str, .int .i64, .slc [.str, .str, .int .i64], .int .i64, .int .i64, .bool, .str, .int .i64, .slc [.str, .str, .int .i64], .int .i64, .int .i64, .bool, .str, .int .i64, .slc [.str, .str, .int .i64], .int .i64, .int .i64, .bool, .str, .int .i64, .slc [.str, .str, .int .i64], .int .i64, .int .i64, .bool, .str, .int .i64, .slc [.str, .str, .int .i64], .int .i64, .int .i64, .bool, .str, .int .i64, .slc [.str, .str, .int .i64], .int .i64, .int .i64, .bool, .str, .int .i64, .slc [.str, .str, .int .i64], .int .i64, .int .i64, .bool, .str, .int .i64, .slc [.str, .str, .int .i64]]), (true, [.int .i64, .int .i64, .int .i64, .str, .str, .str, .str])]) (by kernel_rfl) rfl rfl (by kernel_rfl) ?_ ?_ H enc W base args ds gs before hval hW hk
  · intro H ds h
    rcases ds with _ | ⟨d1, _ | ⟨d0, _ | ⟨d, ds⟩⟩⟩ <;> first
      | rfl
      | (exact absurd h (by simp [Try.f8]))
  · intro pss hf hw
    simp only [FitA] at hf
    obtain ⟨q0, _, rfl, f0, ⟨q1, _, rfl, f1, rfl⟩⟩ := hf
    simp only [wtR] at hw
    obtain ⟨xs, cs, e0, w1, w2, w3, w4⟩ := fit_st f0 (by omega)
    obtain ⟨a, b, c, d, e, f, g, e1, _⟩ := fit_cmd f1 (by omega)
    subst e1
    show FnV Try.prog 8 [.agg (q0.map .d), Cmd.D ⟨a, b, c, d, e, f, g⟩] _
    rw [e0]
    exact v_anyL xs cs ⟨a, b, c, d, e, f, g⟩ w1 w2 w3 w4
set_option maxRecDepth 100000 in
theorem lifted (os : Os) (started : os.Started) (H : Type) (enc : TypeId × Value → H) (F : Stop.Interp) :
    ReturnsInHanded {} Try.checked os 8 .any ((Rows.OpenSpec.upto Rows.stateAnySpec).pre6 enc Try.prog Try.f8 Rows.stateAnyUptoRow.domain false) (((Rows.OpenSpec.upto Rows.stateAnySpec).at F).post enc Try.prog Try.f8 false true false false) := by
  refine returnsInHanded_of_cond (C := Try.checked) (s := Rows.OpenSpec.upto Rows.stateAnySpec) (k := Rows.uptoSmall) rfl own started (by kernel_rfl) Try.func8
    (OpenSpec.witness (enc := enc) (C := Try.checked) (s := Rows.OpenSpec.upto Rows.stateAnySpec) (k := Rows.uptoSmall) rfl false ⟨#[], #[.agg #[.slice none 0 0, .int .i64 0, .int .i64 0, .bool false, .string .empty, .int .i64 0, .slice none 0 0, .int .i64 0, .int .i64 0, .bool false, .string .empty, .int .i64 0, .slice none 0 0, .int .i64 0, .int .i64 0, .bool false, .string .empty, .int .i64 0, .slice none 0 0, .int .i64 0, .int .i64 0, .bool false, .string .empty, .int .i64 0, .slice none 0 0, .int .i64 0, .int .i64 0, .bool false, .string .empty, .int .i64 0, .slice none 0 0, .int .i64 0, .int .i64 0, .bool false, .string .empty, .int .i64 0, .slice none 0 0, .int .i64 0, .int .i64 0, .bool false, .string .empty, .int .i64 0, .slice none 0 0, .int .i64 0, .int .i64 0, .bool false, .string .empty, .int .i64 0, .slice none 0 0], .agg #[.int .i64 0, .int .i64 0, .int .i64 0, .string .empty, .string .empty, .string .empty, .string .empty]], []⟩ 8 (by kernel_rfl) (by kernel_rfl) (by kernel_rfl)
      (x := ([.agg [.nil, .agg [.agg [.lit (.int .i64 0), .agg [.lit (.int .i64 0), .lit (.bool false), .lit (.string []), .lit (.int .i64 0), .nil]], .agg [.lit (.int .i64 0), .agg [.lit (.int .i64 0), .lit (.bool false), .lit (.string []), .lit (.int .i64 0), .nil]], .agg [.lit (.int .i64 0), .agg [.lit (.int .i64 0), .lit (.bool false), .lit (.string []), .lit (.int .i64 0), .nil]], .agg [.lit (.int .i64 0), .agg [.lit (.int .i64 0), .lit (.bool false), .lit (.string []), .lit (.int .i64 0), .nil]], .agg [.lit (.int .i64 0), .agg [.lit (.int .i64 0), .lit (.bool false), .lit (.string []), .lit (.int .i64 0), .nil]], .agg [.lit (.int .i64 0), .agg [.lit (.int .i64 0), .lit (.bool false), .lit (.string []), .lit (.int .i64 0), .nil]], .agg [.lit (.int .i64 0), .agg [.lit (.int .i64 0), .lit (.bool false), .lit (.string []), .lit (.int .i64 0), .nil]], .agg [.lit (.int .i64 0), .agg [.lit (.int .i64 0), .lit (.bool false), .lit (.string []), .lit (.int .i64 0), .nil]]]], .agg [.lit (.int .i64 0), .lit (.int .i64 0), .lit (.int .i64 0), .lit (.string []), .lit (.string []), .lit (.string []), .lit (.string [])]], [], [])) (by kernel_rfl) rfl (by kernel_rfl)) ?_
  intro W base args ds gs before hval hW _ hk _
  exact contract H enc W base args ds gs before hval hW hk
theorem over : Rows.stateAnyUptoRow.holds Try.pinned (Rows.OpenSpec.upto Rows.stateAnySpec) :=
  OpenClaim.holds_of_cond 8 Try.f8 rfl rfl rfl rfl rfl rfl rfl ⟨rfl, rfl, rfl, rfl, rfl⟩ rfl rfl rfl rfl rfl (by kernel_rfl) Try.func8 (by kernel_rfl)
    (of_decide_eq_true (by kernel_rfl)) (by unfold Func.isWrapper; first | (rw [if_pos (by decide +kernel)]; kernel_rfl) | (rw [if_neg (by decide +kernel)]; exact ⟨rfl, rfl⟩))
    (fun os started H enc _ F => lifted os started H enc F)
/-- The statement of the law. -/
theorem proved : Rows.StateAnyUptoSaid := over
end stateAny
end Go.Proofs.Ytijknhdaipnjaaa
