/- Any bytes as a letter, as a cell; a letter's bytes turned in one place, cut off, or longer: the law holds of every input of bulk at most the bound. -/
import Derived.Test.YtbhapclaochcnaaLk15
import Derived.Test.YtbhapclaochcnaaLeZr
namespace Go.Proofs.Ytbhapclaochcnaa
open Go.RowKit
set_option linter.all false
set_option maxHeartbeats 4000000

namespace letterReads
open Go.ChangeShapes Go.WideShapes Go.ChangeAt Go.RowKit
theorem own : ownKnob Try.prog.godebug = none := by kernel_rfl
set_option maxRecDepth 100000 in
theorem contract (H : Type) (enc : TypeId × Value → H) (W : World) (base : Nat) (args : Array Value) (ds gs : List (DataW H)) (before : List MemPlace)
    (hval : ∀ (j : Nat) t v, Try.f5.params[j]? = some t → args[j]? = some v → Value.okWide Try.prog W .any base t v)
    (hW : DataW.Whole enc Try.prog Try.f5.params.toList Rows.letterReadsSpec.vars false W args.toList ds gs before) (hk : Rows.uptoSmall H (ds ++ gs) = true) :
    Calls Try.prog 5 args W fun e W' => ∃ v, e = .returned v ∧ Rows.letterReadsSpec.post enc Try.prog Try.f5 false true false false W args v W' := by
  refine law_contract (tb := 4) (by kernel_rfl) (by kernel_rfl) (shs := [(false, [.slc [.int .u8]]), (true, [.int .i64, .int .i64, .int .i64, .int .i64, .int .i64, .int .i64, .int .i64, .int .i64, .int .i64, .int .i64, .str, .str, .str, .str, .int .i64, .int .i64, .int .i64, .int .i64, .int .i64, .int .i64, .int .i64, .int .i64, .int .i64, .int .i64, .int .i64, .int .i64, .int .i64, .int .i64, .int .i64, .int .i64, .str, .str, .str, .str, .int .i64, .int .i64, .int .i64, .int .i64, .int .i64, .int .i64, .int .i64, .int .i64, .bool, .int .i64, .int .i64, .int .i64, .int .i64, .int .i64, .int .i64, .int .i64, .str]), (false, [.int .i64]), (false, [.int .u8]), (false, [.int .i64])]) (by kernel_rfl) rfl rfl (by kernel_rfl) ?_ ?_ H enc W base args ds gs before hval hW hk
  · intro H ds h
    rcases ds with _ | ⟨d4, _ | ⟨d3, _ | ⟨d2, _ | ⟨d1, _ | ⟨d0, _ | ⟨d, ds⟩⟩⟩⟩⟩⟩ <;> first
      | rfl
      | (exact absurd h (by simp [Try.f5]))
  · intro pss hf hw
    simp only [FitA] at hf
    obtain ⟨q0, _, rfl, f0, ⟨q1, _, rfl, f1, ⟨q2, _, rfl, f2, ⟨q3, _, rfl, f3, ⟨q4, _, rfl, f4, rfl⟩⟩⟩⟩⟩ := hf
    simp only [wtR] at hw
    obtain ⟨x0, e0, w0⟩ := fit_row8 f0 (by omega)
    obtain ⟨x1_0, x1_1, x1_2, x1_3, x1_4, x1_5, x1_6, x1_7, x1_8, x1_9, x1_10, x1_11, x1_12, x1_13, x1_14, x1_15, x1_16, x1_17, x1_18, x1_19, x1_20, x1_21, x1_22, x1_23, x1_24, x1_25, x1_26, x1_27, x1_28, x1_29, x1_30, x1_31, x1_32, x1_33, x1_34, x1_35, x1_36, x1_37, x1_38, x1_39, x1_40, x1_41, x1_42, x1_43, x1_44, x1_45, x1_46, x1_47, x1_48, x1_49, x1_50, e1, w1⟩ := fit_letter f1 (by omega)
    subst e0
    subst e1
    obtain ⟨x2, rfl, w2⟩ := fit_int f2
    obtain ⟨x3, rfl, w3⟩ := fit_u8 f3
    obtain ⟨x4, rfl, w4⟩ := fit_int f4
    show FnV Try.prog 5 [.d (.slc 1 x0), .agg ([.sc (.int .i64 x1_0), .sc (.int .i64 x1_1), .sc (.int .i64 x1_2), .sc (.int .i64 x1_3), .sc (.int .i64 x1_4), .sc (.int .i64 x1_5), .sc (.int .i64 x1_6), .sc (.int .i64 x1_7), .sc (.int .i64 x1_8), .sc (.int .i64 x1_9), .sc (.string x1_10), .sc (.string x1_11), .sc (.string x1_12), .sc (.string x1_13), .sc (.int .i64 x1_14), .sc (.int .i64 x1_15), .sc (.int .i64 x1_16), .sc (.int .i64 x1_17), .sc (.int .i64 x1_18), .sc (.int .i64 x1_19), .sc (.int .i64 x1_20), .sc (.int .i64 x1_21), .sc (.int .i64 x1_22), .sc (.int .i64 x1_23), .sc (.int .i64 x1_24), .sc (.int .i64 x1_25), .sc (.int .i64 x1_26), .sc (.int .i64 x1_27), .sc (.int .i64 x1_28), .sc (.int .i64 x1_29), .sc (.string x1_30), .sc (.string x1_31), .sc (.string x1_32), .sc (.string x1_33), .sc (.int .i64 x1_34), .sc (.int .i64 x1_35), .sc (.int .i64 x1_36), .sc (.int .i64 x1_37), .sc (.int .i64 x1_38), .sc (.int .i64 x1_39), .sc (.int .i64 x1_40), .sc (.int .i64 x1_41), .sc (.bool x1_42), .sc (.int .i64 x1_43), .sc (.int .i64 x1_44), .sc (.int .i64 x1_45), .sc (.int .i64 x1_46), .sc (.int .i64 x1_47), .sc (.int .i64 x1_48), .sc (.int .i64 x1_49), .sc (.string x1_50)].map .d), .d (.sc (.int .i64 x2)), .d (.sc (.int .u8 x3)), .d (.sc (.int .i64 x4))] _
    exact v_reads15 x0 ⟨x1_0, x1_1, x1_2, x1_3, x1_4, x1_5, x1_6, x1_7, x1_8, x1_9, x1_10, x1_11, x1_12, x1_13, x1_14, x1_15, x1_16, x1_17, x1_18, x1_19, x1_20, x1_21, x1_22, x1_23, x1_24, x1_25, x1_26, x1_27, x1_28, x1_29, x1_30, x1_31, x1_32, x1_33, x1_34, x1_35, x1_36, x1_37, x1_38, x1_39, x1_40, x1_41, x1_42, x1_43, x1_44, x1_45, x1_46, x1_47, x1_48, x1_49, x1_50⟩ x2 x3 x4 w0 w1 w2 ⟨w3.1, by omega⟩ w4
set_option maxRecDepth 100000 in
theorem lifted (os : Os) (started : os.Started) (H : Type) (enc : TypeId × Value → H) (F : Stop.Interp) :
    ReturnsInHanded {} Try.checked os 5 .any ((Rows.OpenSpec.upto Rows.letterReadsSpec).pre6 enc Try.prog Try.f5 Rows.letterReadsUptoRow.domain false) (((Rows.OpenSpec.upto Rows.letterReadsSpec).at F).post enc Try.prog Try.f5 false true false false) := by
  refine returnsInHanded_of_cond (C := Try.checked) (s := Rows.OpenSpec.upto Rows.letterReadsSpec) (k := Rows.uptoSmall) rfl own started (by kernel_rfl) Try.func5
    (OpenSpec.witness (enc := enc) (C := Try.checked) (s := Rows.OpenSpec.upto Rows.letterReadsSpec) (k := Rows.uptoSmall) rfl false ⟨#[], #[.slice none 0 0, .agg #[.int .i64 0, .int .i64 0, .int .i64 0, .int .i64 0, .int .i64 0, .int .i64 0, .int .i64 0, .int .i64 0, .int .i64 0, .int .i64 0, .string .empty, .string .empty, .string .empty, .string .empty, .int .i64 0, .int .i64 0, .int .i64 0, .int .i64 0, .int .i64 0, .int .i64 0, .int .i64 0, .int .i64 0, .int .i64 0, .int .i64 0, .int .i64 0, .int .i64 0, .int .i64 0, .int .i64 0, .int .i64 0, .int .i64 0, .string .empty, .string .empty, .string .empty, .string .empty, .int .i64 0, .int .i64 0, .int .i64 0, .int .i64 0, .int .i64 0, .int .i64 0, .int .i64 0, .int .i64 0, .bool false, .int .i64 0, .int .i64 0, .int .i64 0, .int .i64 0, .int .i64 0, .int .i64 0, .int .i64 0, .string .empty], .int .i64 0, .int .u8 0, .int .i64 0], []⟩ 8 (by kernel_rfl) (by kernel_rfl) (by kernel_rfl)
      (x := ([.nil, .agg [.lit (.int .i64 0), .lit (.int .i64 0), .lit (.int .i64 0), .agg [.lit (.int .i64 0), .lit (.int .i64 0)], .agg [.lit (.int .i64 0), .lit (.int .i64 0)], .agg [.lit (.int .i64 0), .lit (.int .i64 0), .lit (.int .i64 0), .lit (.string []), .lit (.string []), .lit (.string []), .lit (.string [])], .agg [.lit (.int .i64 0), .agg [.lit (.int .i64 0), .lit (.int .i64 0), .lit (.int .i64 0), .lit (.int .i64 0), .lit (.int .i64 0), .lit (.int .i64 0), .lit (.int .i64 0)]], .agg [.lit (.int .i64 0), .agg [.lit (.int .i64 0), .lit (.int .i64 0)], .agg [.lit (.int .i64 0), .lit (.int .i64 0)], .agg [.lit (.int .i64 0), .lit (.int .i64 0), .lit (.int .i64 0), .lit (.string []), .lit (.string []), .lit (.string []), .lit (.string [])], .agg [.lit (.int .i64 0), .agg [.lit (.int .i64 0), .lit (.int .i64 0), .lit (.int .i64 0), .lit (.int .i64 0), .lit (.int .i64 0), .lit (.int .i64 0), .lit (.int .i64 0)]], .lit (.bool false)], .agg [.lit (.int .i64 0), .lit (.int .i64 0), .lit (.int .i64 0), .lit (.int .i64 0), .lit (.int .i64 0), .lit (.int .i64 0), .lit (.int .i64 0)], .lit (.string [])], .lit (.int .i64 0), .lit (.int .u8 0), .lit (.int .i64 0)], [], [])) (by kernel_rfl) rfl (by kernel_rfl)) ?_
  intro W base args ds gs before hval hW _ hk _
  exact contract H enc W base args ds gs before hval hW hk
theorem over : Rows.letterReadsUptoRow.holds Try.pinned (Rows.OpenSpec.upto Rows.letterReadsSpec) :=
  OpenClaim.holds_of_cond 5 Try.f5 rfl rfl rfl rfl rfl rfl rfl ⟨rfl, rfl, rfl, rfl, rfl⟩ rfl rfl rfl rfl rfl (by kernel_rfl) Try.func5 (by kernel_rfl)
    (of_decide_eq_true (by kernel_rfl)) (by unfold Func.isWrapper; first | (rw [if_pos (by decide +kernel)]; kernel_rfl) | (rw [if_neg (by decide +kernel)]; exact ⟨rfl, rfl⟩))
    (fun os started H enc _ F => lifted os started H enc F)
/-- The statement of the law. -/
theorem proved : Rows.LetterReadsUptoSaid := over
end letterReads
end Go.Proofs.Ytbhapclaochcnaa
