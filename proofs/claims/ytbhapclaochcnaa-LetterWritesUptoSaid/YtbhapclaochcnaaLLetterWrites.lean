/- Any cell, any letter: may it be, its bytes: the law holds of every input of bulk at most the bound. -/
import Derived.Test.YtbhapclaochcnaaLk15
import Derived.Test.YtbhapclaochcnaaLeD
namespace Go.Proofs.Ytbhapclaochcnaa
set_option linter.all false
set_option maxHeartbeats 4000000

namespace letterWrites
open Go.ChangeShapes Go.WideShapes Go.ChangeAt Go.RowKit
theorem own : ownKnob Try.prog.godebug = none := by kernel_rfl
set_option maxRecDepth 100000 in
theorem contract (H : Type) (enc : TypeId × Value → H) (W : World) (base : Nat) (args : Array Value) (ds gs : List (DataW H)) (before : List MemPlace)
    (hval : ∀ (j : Nat) t v, Try.f4.params[j]? = some t → args[j]? = some v → Value.okWide Try.prog W .any base t v)
    (hW : DataW.Whole enc Try.prog Try.f4.params.toList Rows.letterWritesSpec.vars false W args.toList ds gs before) (hk : Rows.uptoSmall H (ds ++ gs) = true) :
    Calls Try.prog 4 args W fun e W' => ∃ v, e = .returned v ∧ Rows.letterWritesSpec.post enc Try.prog Try.f4 false true false false W args v W' := by
  refine law_contract (tb := 4) (by kernel_rfl) (by kernel_rfl) (shs := [(true, [.int .i64, .int .i64, .int .i64, .int .i64, .int .i64, .int .i64, .int .i64, .int .i64, .int .i64, .int .i64, .str, .str, .str, .str, .int .i64, .int .i64, .int .i64, .int .i64, .int .i64, .int .i64, .int .i64, .int .i64, .int .i64, .int .i64, .int .i64, .int .i64, .int .i64, .int .i64, .int .i64, .int .i64, .str, .str, .str, .str, .int .i64, .int .i64, .int .i64, .int .i64, .int .i64, .int .i64, .int .i64, .int .i64, .bool, .int .i64, .int .i64, .int .i64, .int .i64, .int .i64, .int .i64, .int .i64, .str]), (false, [.slc [.int .u8]])]) (by kernel_rfl) rfl rfl (by kernel_rfl) ?_ ?_ H enc W base args ds gs before hval hW hk
  · intro H ds h
    rcases ds with _ | ⟨d1, _ | ⟨d0, _ | ⟨d, ds⟩⟩⟩ <;> first
      | rfl
      | (exact absurd h (by simp [Try.f4]))
  · intro pss hf hw
    simp only [FitA] at hf
    obtain ⟨q0, _, rfl, f0, ⟨q1, _, rfl, f1, rfl⟩⟩ := hf
    simp only [wtR] at hw
    obtain ⟨x0_0, x0_1, x0_2, x0_3, x0_4, x0_5, x0_6, x0_7, x0_8, x0_9, x0_10, x0_11, x0_12, x0_13, x0_14, x0_15, x0_16, x0_17, x0_18, x0_19, x0_20, x0_21, x0_22, x0_23, x0_24, x0_25, x0_26, x0_27, x0_28, x0_29, x0_30, x0_31, x0_32, x0_33, x0_34, x0_35, x0_36, x0_37, x0_38, x0_39, x0_40, x0_41, x0_42, x0_43, x0_44, x0_45, x0_46, x0_47, x0_48, x0_49, x0_50, e0, w0⟩ := fit_letter f0 (by omega)
    obtain ⟨x1, e1, w1⟩ := fit_row8 f1 (by omega)
    subst e0
    subst e1
    show FnV Try.prog 4 [.agg ([.sc (.int .i64 x0_0), .sc (.int .i64 x0_1), .sc (.int .i64 x0_2), .sc (.int .i64 x0_3), .sc (.int .i64 x0_4), .sc (.int .i64 x0_5), .sc (.int .i64 x0_6), .sc (.int .i64 x0_7), .sc (.int .i64 x0_8), .sc (.int .i64 x0_9), .sc (.string x0_10), .sc (.string x0_11), .sc (.string x0_12), .sc (.string x0_13), .sc (.int .i64 x0_14), .sc (.int .i64 x0_15), .sc (.int .i64 x0_16), .sc (.int .i64 x0_17), .sc (.int .i64 x0_18), .sc (.int .i64 x0_19), .sc (.int .i64 x0_20), .sc (.int .i64 x0_21), .sc (.int .i64 x0_22), .sc (.int .i64 x0_23), .sc (.int .i64 x0_24), .sc (.int .i64 x0_25), .sc (.int .i64 x0_26), .sc (.int .i64 x0_27), .sc (.int .i64 x0_28), .sc (.int .i64 x0_29), .sc (.string x0_30), .sc (.string x0_31), .sc (.string x0_32), .sc (.string x0_33), .sc (.int .i64 x0_34), .sc (.int .i64 x0_35), .sc (.int .i64 x0_36), .sc (.int .i64 x0_37), .sc (.int .i64 x0_38), .sc (.int .i64 x0_39), .sc (.int .i64 x0_40), .sc (.int .i64 x0_41), .sc (.bool x0_42), .sc (.int .i64 x0_43), .sc (.int .i64 x0_44), .sc (.int .i64 x0_45), .sc (.int .i64 x0_46), .sc (.int .i64 x0_47), .sc (.int .i64 x0_48), .sc (.int .i64 x0_49), .sc (.string x0_50)].map .d), .d (.slc 1 x1)] _
    exact v_writes15 ⟨x0_0, x0_1, x0_2, x0_3, x0_4, x0_5, x0_6, x0_7, x0_8, x0_9, x0_10, x0_11, x0_12, x0_13, x0_14, x0_15, x0_16, x0_17, x0_18, x0_19, x0_20, x0_21, x0_22, x0_23, x0_24, x0_25, x0_26, x0_27, x0_28, x0_29, x0_30, x0_31, x0_32, x0_33, x0_34, x0_35, x0_36, x0_37, x0_38, x0_39, x0_40, x0_41, x0_42, x0_43, x0_44, x0_45, x0_46, x0_47, x0_48, x0_49, x0_50⟩ x1 w0 w1
set_option maxRecDepth 100000 in
theorem lifted (os : Os) (started : os.Started) (H : Type) (enc : TypeId × Value → H) (F : Stop.Interp) :
    ReturnsInHanded {} Try.checked os 4 .any ((Rows.OpenSpec.upto Rows.letterWritesSpec).pre6 enc Try.prog Try.f4 Rows.letterWritesUptoRow.domain false) (((Rows.OpenSpec.upto Rows.letterWritesSpec).at F).post enc Try.prog Try.f4 false true false false) := by
  refine returnsInHanded_of_cond (C := Try.checked) (s := Rows.OpenSpec.upto Rows.letterWritesSpec) (k := Rows.uptoSmall) rfl own started (by kernel_rfl) Try.func4
    (OpenSpec.witness (enc := enc) (C := Try.checked) (s := Rows.OpenSpec.upto Rows.letterWritesSpec) (k := Rows.uptoSmall) rfl false ⟨#[], #[.agg #[.int .i64 0, .int .i64 0, .int .i64 0, .int .i64 0, .int .i64 0, .int .i64 0, .int .i64 0, .int .i64 0, .int .i64 0, .int .i64 0, .string .empty, .string .empty, .string .empty, .string .empty, .int .i64 0, .int .i64 0, .int .i64 0, .int .i64 0, .int .i64 0, .int .i64 0, .int .i64 0, .int .i64 0, .int .i64 0, .int .i64 0, .int .i64 0, .int .i64 0, .int .i64 0, .int .i64 0, .int .i64 0, .int .i64 0, .string .empty, .string .empty, .string .empty, .string .empty, .int .i64 0, .int .i64 0, .int .i64 0, .int .i64 0, .int .i64 0, .int .i64 0, .int .i64 0, .int .i64 0, .bool false, .int .i64 0, .int .i64 0, .int .i64 0, .int .i64 0, .int .i64 0, .int .i64 0, .int .i64 0, .string .empty], .slice none 0 0], []⟩ 8 (by kernel_rfl) (by kernel_rfl) (by kernel_rfl)
      (x := ([.agg [.lit (.int .i64 0), .lit (.int .i64 0), .lit (.int .i64 0), .agg [.lit (.int .i64 0), .lit (.int .i64 0)], .agg [.lit (.int .i64 0), .lit (.int .i64 0)], .agg [.lit (.int .i64 0), .lit (.int .i64 0), .lit (.int .i64 0), .lit (.string []), .lit (.string []), .lit (.string []), .lit (.string [])], .agg [.lit (.int .i64 0), .agg [.lit (.int .i64 0), .lit (.int .i64 0), .lit (.int .i64 0), .lit (.int .i64 0), .lit (.int .i64 0), .lit (.int .i64 0), .lit (.int .i64 0)]], .agg [.lit (.int .i64 0), .agg [.lit (.int .i64 0), .lit (.int .i64 0)], .agg [.lit (.int .i64 0), .lit (.int .i64 0)], .agg [.lit (.int .i64 0), .lit (.int .i64 0), .lit (.int .i64 0), .lit (.string []), .lit (.string []), .lit (.string []), .lit (.string [])], .agg [.lit (.int .i64 0), .agg [.lit (.int .i64 0), .lit (.int .i64 0), .lit (.int .i64 0), .lit (.int .i64 0), .lit (.int .i64 0), .lit (.int .i64 0), .lit (.int .i64 0)]], .lit (.bool false)], .agg [.lit (.int .i64 0), .lit (.int .i64 0), .lit (.int .i64 0), .lit (.int .i64 0), .lit (.int .i64 0), .lit (.int .i64 0), .lit (.int .i64 0)], .lit (.string [])], .nil], [], [])) (by kernel_rfl) rfl (by kernel_rfl)) ?_
  intro W base args ds gs before hval hW _ hk _
  exact contract H enc W base args ds gs before hval hW hk
theorem over : Rows.letterWritesUptoRow.holds Try.pinned (Rows.OpenSpec.upto Rows.letterWritesSpec) :=
  OpenClaim.holds_of_cond 4 Try.f4 rfl rfl rfl rfl rfl rfl rfl ⟨rfl, rfl, rfl, rfl, rfl⟩ rfl rfl rfl rfl rfl (by kernel_rfl) Try.func4 (by kernel_rfl)
    (of_decide_eq_true (by kernel_rfl)) (by unfold Func.isWrapper; first | (rw [if_pos (by decide +kernel)]; kernel_rfl) | (rw [if_neg (by decide +kernel)]; exact ⟨rfl, rfl⟩))
    (fun os started H enc _ F => lifted os started H enc F)
/-- The statement of the law. -/
theorem proved : Rows.LetterWritesUptoSaid := over
end letterWrites
end Go.Proofs.Ytbhapclaochcnaa
