/- The law holds of every input of bulk at most the bound. -/
import Derived.Test.YtjlbdfehkbcmfaaLk
import Derived.Test.YtjlbdfehkbcmfaaDed2
namespace Go.Proofs.Ytjlbdfehkbcmfaa
set_option linter.all false

namespace dedupOthers
open Go.ChangeShapes Go.WideShapes Go.ChangeAt Go.RowKit
theorem own : ownKnob Try.prog.godebug = none := by kernel_rfl
set_option maxRecDepth 100000 in
theorem contract (H : Type) (enc : TypeId × Value → H) (W : World) (base : Nat) (args : Array Value) (ds gs : List (DataW H)) (before : List MemPlace)
    (hval : ∀ (j : Nat) t v, Try.f5.params[j]? = some t → args[j]? = some v → Value.okWide Try.prog W .any base t v)
    (hW : DataW.Whole enc Try.prog Try.f5.params.toList Rows.dedupOthersSpec.vars false W args.toList ds gs before) (hk : Rows.uptoSmall H (ds ++ gs) = true) :
    Calls Try.prog 5 args W fun e W' => ∃ v, e = .returned v ∧ Rows.dedupOthersSpec.post enc Try.prog Try.f5 false true false false W args v W' := by
  refine law_contract (tb := 4) (by kernel_rfl) (by kernel_rfl) (shs := [(true, [.int .i64, .int .i64, .bool, .str, .int .i64, .slc [.str, .str, .int .i64], .int .i64, .int .i64, .bool, .str, .int .i64, .slc [.str, .str, .int .i64], .int .i64, .int .i64, .bool, .str, .int .i64, .slc [.str, .str, .int .i64], .int .i64, .int .i64, .bool, .str, .int .i64, .slc [.str, .str, .int .i64], .int .i64, .int .i64, .bool, .str, .int .i64, .slc [.str, .str, .int .i64], .int .i64, .int .i64, .bool, .str, .int .i64, .slc [.str, .str, .int .i64], .int .i64, .int .i64, .bool, .str, .int .i64, .slc [.str, .str, .int .i64], .int .i64, .int .i64, .bool, .str, .int .i64, .slc [.str, .str, .int .i64]]), (false, [.int .i64]), (false, [.int .i64]), (false, [.int .i64]), (false, [.int .i64]), (true, [.int .i64, .bool, .str, .int .i64, .slc [.str, .str, .int .i64]])]) (by kernel_rfl) rfl rfl (by kernel_rfl) ?_ ?_ H enc W base args ds gs before hval hW hk
  · intro H ds h
    rcases ds with _ | ⟨d5, _ | ⟨d4, _ | ⟨d3, _ | ⟨d2, _ | ⟨d1, _ | ⟨d0, _ | ⟨d, ds⟩⟩⟩⟩⟩⟩⟩ <;> first
      | rfl
      | (exact absurd h (by simp [Try.f5]))
  · intro pss hf hw
    simp only [FitA] at hf
    obtain ⟨q0, _, rfl, f0, ⟨q1, _, rfl, f1, ⟨q2, _, rfl, f2, ⟨q3, _, rfl, f3, ⟨q4, _, rfl, f4, ⟨q5, _, rfl, f5, rfl⟩⟩⟩⟩⟩⟩ := hf
    simp only [wtR] at hw
    have w0 := fit_own f0 (by omega)
    obtain ⟨x5, e5, w5⟩ := fit_reply f5 (by omega)
    obtain ⟨x1, rfl, w1⟩ := fit_int f1
    obtain ⟨x2, rfl, w2⟩ := fit_int f2
    obtain ⟨x3, rfl, w3⟩ := fit_int f3
    obtain ⟨x4, rfl, w4⟩ := fit_int f4
    show FnV Try.prog 5 [.agg (q0.map .d), .d (.sc (.int .i64 x1)), .d (.sc (.int .i64 x2)), .d (.sc (.int .i64 x3)), .d (.sc (.int .i64 x4)), .agg (q5.map .d)] _
    rw [e5]
    exact v_others _ x1 x2 x3 x4 x5 (isOwn.u w0) w5 w1 w2
set_option maxRecDepth 100000 in
theorem lifted (os : Os) (started : os.Started) (H : Type) (enc : TypeId × Value → H) (F : Stop.Interp) :
    ReturnsInHanded {} Try.checked os 5 .any ((Rows.OpenSpec.upto Rows.dedupOthersSpec).pre6 enc Try.prog Try.f5 Rows.dedupOthersUptoRow.domain false) (((Rows.OpenSpec.upto Rows.dedupOthersSpec).at F).post enc Try.prog Try.f5 false true false false) := by
  refine returnsInHanded_of_cond (C := Try.checked) (s := Rows.OpenSpec.upto Rows.dedupOthersSpec) (k := Rows.uptoSmall) rfl own started (by kernel_rfl) Try.func5
    (OpenSpec.witness (enc := enc) (C := Try.checked) (s := Rows.OpenSpec.upto Rows.dedupOthersSpec) (k := Rows.uptoSmall) rfl false ⟨#[], #[.agg #[.int .i64 0, .int .i64 0, .bool false, .string .empty, .int .i64 0, .slice none 0 0, .int .i64 0, .int .i64 0, .bool false, .string .empty, .int .i64 0, .slice none 0 0, .int .i64 0, .int .i64 0, .bool false, .string .empty, .int .i64 0, .slice none 0 0, .int .i64 0, .int .i64 0, .bool false, .string .empty, .int .i64 0, .slice none 0 0, .int .i64 0, .int .i64 0, .bool false, .string .empty, .int .i64 0, .slice none 0 0, .int .i64 0, .int .i64 0, .bool false, .string .empty, .int .i64 0, .slice none 0 0, .int .i64 0, .int .i64 0, .bool false, .string .empty, .int .i64 0, .slice none 0 0, .int .i64 0, .int .i64 0, .bool false, .string .empty, .int .i64 0, .slice none 0 0], .int .i64 0, .int .i64 0, .int .i64 0, .int .i64 0, .agg #[.int .i64 0, .bool false, .string .empty, .int .i64 0, .slice none 0 0]], []⟩ 8 (by kernel_rfl) (by kernel_rfl) (by kernel_rfl)
      (x := ([.agg [.agg [.lit (.int .i64 0), .agg [.lit (.int .i64 0), .lit (.bool false), .lit (.string []), .lit (.int .i64 0), .nil]], .agg [.lit (.int .i64 0), .agg [.lit (.int .i64 0), .lit (.bool false), .lit (.string []), .lit (.int .i64 0), .nil]], .agg [.lit (.int .i64 0), .agg [.lit (.int .i64 0), .lit (.bool false), .lit (.string []), .lit (.int .i64 0), .nil]], .agg [.lit (.int .i64 0), .agg [.lit (.int .i64 0), .lit (.bool false), .lit (.string []), .lit (.int .i64 0), .nil]], .agg [.lit (.int .i64 0), .agg [.lit (.int .i64 0), .lit (.bool false), .lit (.string []), .lit (.int .i64 0), .nil]], .agg [.lit (.int .i64 0), .agg [.lit (.int .i64 0), .lit (.bool false), .lit (.string []), .lit (.int .i64 0), .nil]], .agg [.lit (.int .i64 0), .agg [.lit (.int .i64 0), .lit (.bool false), .lit (.string []), .lit (.int .i64 0), .nil]], .agg [.lit (.int .i64 0), .agg [.lit (.int .i64 0), .lit (.bool false), .lit (.string []), .lit (.int .i64 0), .nil]]], .lit (.int .i64 0), .lit (.int .i64 0), .lit (.int .i64 0), .lit (.int .i64 0), .agg [.lit (.int .i64 0), .lit (.bool false), .lit (.string []), .lit (.int .i64 0), .nil]], [], [])) (by kernel_rfl) rfl (by kernel_rfl)) ?_
  intro W base args ds gs before hval hW _ hk _
  exact contract H enc W base args ds gs before hval hW hk
theorem over : Rows.dedupOthersUptoRow.holds Try.pinned (Rows.OpenSpec.upto Rows.dedupOthersSpec) :=
  OpenClaim.holds_of_cond 5 Try.f5 rfl rfl rfl rfl rfl rfl rfl ⟨rfl, rfl, rfl, rfl, rfl⟩ rfl rfl rfl rfl rfl (by kernel_rfl) Try.func5 (by kernel_rfl)
    (of_decide_eq_true (by kernel_rfl)) (by unfold Func.isWrapper; first | (rw [if_pos (by decide +kernel)]; kernel_rfl) | (rw [if_neg (by decide +kernel)]; exact ⟨rfl, rfl⟩))
    (fun os started H enc _ F => lifted os started H enc F)
/-- The statement of the law. -/
theorem proved : Rows.DedupOthersUptoSaid := over
end dedupOthers
end Go.Proofs.Ytjlbdfehkbcmfaa
