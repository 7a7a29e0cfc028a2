/- The law holds of every input of bulk at most the bound. -/
import Derived.Test.YtjlbdfehkbcmfaaLk
import Derived.Test.YtjlbdfehkbcmfaaDed3
namespace Go.Proofs.Ytjlbdfehkbcmfaa
set_option linter.all false

namespace dedupTells
open Go.ChangeShapes Go.WideShapes Go.ChangeAt Go.RowKit
theorem own : ownKnob Try.prog.godebug = none := by kernel_rfl
set_option maxRecDepth 100000 in
theorem contract (H : Type) (enc : TypeId × Value → H) (W : World) (base : Nat) (args : Array Value) (ds gs : List (DataW H)) (before : List MemPlace)
    (hval : ∀ (j : Nat) t v, Try.f6.params[j]? = some t → args[j]? = some v → Value.okWide Try.prog W .any base t v)
    (hW : DataW.Whole enc Try.prog Try.f6.params.toList Rows.dedupTellsSpec.vars false W args.toList ds gs before) (hk : Rows.uptoSmall H (ds ++ gs) = true) :
    Calls Try.prog 6 args W fun e W' => ∃ v, e = .returned v ∧ Rows.dedupTellsSpec.post enc Try.prog Try.f6 false true false false W args v W' := by
  refine law_contract (tb := 4) (by kernel_rfl) (by kernel_rfl) (shs := [(true, [.int .i64, .int .i64, .bool, .str, .int .i64, .slc [.str, .str, .int .i64], .int .i64, .int .i64, .bool, .str, .int .i64, .slc [.str, .str, .int .i64], .int .i64, .int .i64, .bool, .str, .int .i64, .slc [.str, .str, .int .i64], .int .i64, .int .i64, .bool, .str, .int .i64, .slc [.str, .str, .int .i64], .int .i64, .int .i64, .bool, .str, .int .i64, .slc [.str, .str, .int .i64], .int .i64, .int .i64, .bool, .str, .int .i64, .slc [.str, .str, .int .i64], .int .i64, .int .i64, .bool, .str, .int .i64, .slc [.str, .str, .int .i64], .int .i64, .int .i64, .bool, .str, .int .i64, .slc [.str, .str, .int .i64]]), (false, [.int .i64]), (false, [.int .i64]), (true, [.int .i64, .bool, .str, .int .i64, .slc [.str, .str, .int .i64]])]) (by kernel_rfl) rfl rfl (by kernel_rfl) ?_ ?_ H enc W base args ds gs before hval hW hk
  · intro H ds h
    rcases ds with _ | ⟨d3, _ | ⟨d2, _ | ⟨d1, _ | ⟨d0, _ | ⟨d, ds⟩⟩⟩⟩⟩ <;> first
      | rfl
      | (exact absurd h (by simp [Try.f6]))
  · intro pss hf hw
    simp only [FitA] at hf
    obtain ⟨q0, _, rfl, f0, ⟨q1, _, rfl, f1, ⟨q2, _, rfl, f2, ⟨q3, _, rfl, f3, rfl⟩⟩⟩⟩ := hf
    simp only [wtR] at hw
    have w0 := fit_own f0 (by omega)
    obtain ⟨x3, e3, w3⟩ := fit_reply f3 (by omega)
    obtain ⟨x1, rfl, w1⟩ := fit_int f1
    obtain ⟨x2, rfl, w2⟩ := fit_int f2
    show FnV Try.prog 6 [.agg (q0.map .d), .d (.sc (.int .i64 x1)), .d (.sc (.int .i64 x2)), .agg (q3.map .d)] _
    rw [e3]
    exact v_tells12 _ x1 x2 x3 w0 w3 w1
set_option maxRecDepth 100000 in
theorem lifted (os : Os) (started : os.Started) (H : Type) (enc : TypeId × Value → H) (F : Stop.Interp) :
    ReturnsInHanded {} Try.checked os 6 .any ((Rows.OpenSpec.upto Rows.dedupTellsSpec).pre6 enc Try.prog Try.f6 Rows.dedupTellsUptoRow.domain false) (((Rows.OpenSpec.upto Rows.dedupTellsSpec).at F).post enc Try.prog Try.f6 false true false false) := by
  refine returnsInHanded_of_cond (C := Try.checked) (s := Rows.OpenSpec.upto Rows.dedupTellsSpec) (k := Rows.uptoSmall) rfl own started (by kernel_rfl) Try.func6
    (OpenSpec.witness (enc := enc) (C := Try.checked) (s := Rows.OpenSpec.upto Rows.dedupTellsSpec) (k := Rows.uptoSmall) rfl false ⟨#[], #[.agg #[.int .i64 0, .int .i64 0, .bool false, .string .empty, .int .i64 0, .slice none 0 0, .int .i64 0, .int .i64 0, .bool false, .string .empty, .int .i64 0, .slice none 0 0, .int .i64 0, .int .i64 0, .bool false, .string .empty, .int .i64 0, .slice none 0 0, .int .i64 0, .int .i64 0, .bool false, .string .empty, .int .i64 0, .slice none 0 0, .int .i64 0, .int .i64 0, .bool false, .string .empty, .int .i64 0, .slice none 0 0, .int .i64 0, .int .i64 0, .bool false, .string .empty, .int .i64 0, .slice none 0 0, .int .i64 0, .int .i64 0, .bool false, .string .empty, .int .i64 0, .slice none 0 0, .int .i64 0, .int .i64 0, .bool false, .string .empty, .int .i64 0, .slice none 0 0], .int .i64 0, .int .i64 0, .agg #[.int .i64 0, .bool false, .string .empty, .int .i64 0, .slice none 0 0]], []⟩ 8 (by kernel_rfl) (by kernel_rfl) (by kernel_rfl)
      (x := ([.agg [.agg [.lit (.int .i64 0), .agg [.lit (.int .i64 0), .lit (.bool false), .lit (.string []), .lit (.int .i64 0), .nil]], .agg [.lit (.int .i64 0), .agg [.lit (.int .i64 0), .lit (.bool false), .lit (.string []), .lit (.int .i64 0), .nil]], .agg [.lit (.int .i64 0), .agg [.lit (.int .i64 0), .lit (.bool false), .lit (.string []), .lit (.int .i64 0), .nil]], .agg [.lit (.int .i64 0), .agg [.lit (.int .i64 0), .lit (.bool false), .lit (.string []), .lit (.int .i64 0), .nil]], .agg [.lit (.int .i64 0), .agg [.lit (.int .i64 0), .lit (.bool false), .lit (.string []), .lit (.int .i64 0), .nil]], .agg [.lit (.int .i64 0), .agg [.lit (.int .i64 0), .lit (.bool false), .lit (.string []), .lit (.int .i64 0), .nil]], .agg [.lit (.int .i64 0), .agg [.lit (.int .i64 0), .lit (.bool false), .lit (.string []), .lit (.int .i64 0), .nil]], .agg [.lit (.int .i64 0), .agg [.lit (.int .i64 0), .lit (.bool false), .lit (.string []), .lit (.int .i64 0), .nil]]], .lit (.int .i64 0), .lit (.int .i64 0), .agg [.lit (.int .i64 0), .lit (.bool false), .lit (.string []), .lit (.int .i64 0), .nil]], [], [])) (by kernel_rfl) rfl (by kernel_rfl)) ?_
  intro W base args ds gs before hval hW _ hk _
  exact contract H enc W base args ds gs before hval hW hk
theorem over : Rows.dedupTellsUptoRow.holds Try.pinned (Rows.OpenSpec.upto Rows.dedupTellsSpec) :=
  OpenClaim.holds_of_cond 6 Try.f6 rfl rfl rfl rfl rfl rfl rfl ⟨rfl, rfl, rfl, rfl, rfl⟩ rfl rfl rfl rfl rfl (by kernel_rfl) Try.func6 (by kernel_rfl)
    (of_decide_eq_true (by kernel_rfl)) (by unfold Func.isWrapper; first | (rw [if_pos (by decide +kernel)]; kernel_rfl) | (rw [if_neg (by decide +kernel)]; exact ⟨rfl, rfl⟩))
    (fun os started H enc _ F => lifted os started H enc F)
/-- The statement of the law. -/
theorem proved : Rows.DedupTellsUptoSaid := over
end dedupTells
end Go.Proofs.Ytjlbdfehkbcmfaa
