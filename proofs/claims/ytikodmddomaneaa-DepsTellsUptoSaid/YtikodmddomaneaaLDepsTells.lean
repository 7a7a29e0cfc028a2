/- The law holds of every input of bulk at most the bound. -/
import Derived.Test.YtikodmddomaneaaLk7
import Derived.Test.YtikodmddomaneaaDpT
namespace Go.Proofs.Ytikodmddomaneaa
set_option linter.all false

namespace depsTells
open Go.ChangeShapes Go.WideShapes Go.ChangeAt Go.RowKit
theorem own : ownKnob Try.prog.godebug = none := by kernel_rfl
set_option maxRecDepth 100000 in
theorem contract (H : Type) (enc : TypeId × Value → H) (W : World) (base : Nat) (args : Array Value) (ds gs : List (DataW H)) (before : List MemPlace)
    (hval : ∀ (j : Nat) t v, Try.f8.params[j]? = some t → args[j]? = some v → Value.okWide Try.prog W .any base t v)
    (hW : DataW.Whole enc Try.prog Try.f8.params.toList Rows.depsTellsSpec.vars false W args.toList ds gs before) (hk : Rows.uptoSmall H (ds ++ gs) = true) :
    Calls Try.prog 8 args W fun e W' => ∃ v, e = .returned v ∧ Rows.depsTellsSpec.post enc Try.prog Try.f8 false true false false W args v W' := by
  refine law_contract (tb := 4) (by kernel_rfl) (by kernel_rfl) (shs := [(false, [.slc [.int .i64, .int .i64, .int .i64, .int .i64, .int .i64, .int .i64, .int .i64, .int .i64]]), (true, [.int .i64, .int .i64, .int .i64, .int .i64, .int .i64, .int .i64, .int .i64]), (true, [.int .i64, .int .i64, .int .i64, .int .i64, .int .i64, .int .i64, .int .i64]), (true, [.int .i64, .int .i64])]) (by kernel_rfl) rfl rfl (by kernel_rfl) ?_ ?_ H enc W base args ds gs before hval hW hk
  · intro H ds h
    rcases ds with _ | ⟨d3, _ | ⟨d2, _ | ⟨d1, _ | ⟨d0, _ | ⟨d, ds⟩⟩⟩⟩⟩ <;> first
      | rfl
      | (exact absurd h (by simp [Try.f8]))
  · intro pss hf hw
    simp only [FitA] at hf
    obtain ⟨q0, _, rfl, f0, ⟨q1, _, rfl, f1, ⟨q2, _, rfl, f2, ⟨q3, _, rfl, f3, rfl⟩⟩⟩⟩ := hf
    simp only [wtR] at hw
    obtain ⟨x0, e0, w0⟩ := fit_attrR f0 (by omega)
    obtain ⟨x1_0, x1_1, x1_2, x1_3, x1_4, x1_5, x1_6, e1, w1⟩ := fit_deps f1 (by omega)
    obtain ⟨x2_0, x2_1, x2_2, x2_3, x2_4, x2_5, x2_6, e2, w2⟩ := fit_deps f2 (by omega)
    obtain ⟨x3_0, x3_1, e3, w3⟩ := fit_inst f3 (by omega)
    subst e0
    subst e1
    subst e2
    subst e3
    show FnV Try.prog 8 [.d (.slc 8 x0), .agg ([.sc (.int .i64 x1_0), .sc (.int .i64 x1_1), .sc (.int .i64 x1_2), .sc (.int .i64 x1_3), .sc (.int .i64 x1_4), .sc (.int .i64 x1_5), .sc (.int .i64 x1_6)].map .d), .agg ([.sc (.int .i64 x2_0), .sc (.int .i64 x2_1), .sc (.int .i64 x2_2), .sc (.int .i64 x2_3), .sc (.int .i64 x2_4), .sc (.int .i64 x2_5), .sc (.int .i64 x2_6)].map .d), .agg ([.sc (.int .i64 x3_0), .sc (.int .i64 x3_1)].map .d)] _
    exact v_tellsL x0 ⟨x1_0, x1_1, x1_2, x1_3, x1_4, x1_5, x1_6⟩ ⟨x2_0, x2_1, x2_2, x2_3, x2_4, x2_5, x2_6⟩ ⟨x3_0, x3_1⟩ w0 w1 w2
set_option maxRecDepth 100000 in
theorem lifted (os : Os) (started : os.Started) (H : Type) (enc : TypeId × Value → H) (F : Stop.Interp) :
    ReturnsInHanded {} Try.checked os 8 .any ((Rows.OpenSpec.upto Rows.depsTellsSpec).pre6 enc Try.prog Try.f8 Rows.depsTellsUptoRow.domain false) (((Rows.OpenSpec.upto Rows.depsTellsSpec).at F).post enc Try.prog Try.f8 false true false false) := by
  refine returnsInHanded_of_cond (C := Try.checked) (s := Rows.OpenSpec.upto Rows.depsTellsSpec) (k := Rows.uptoSmall) rfl own started (by kernel_rfl) Try.func8
    (OpenSpec.witness (enc := enc) (C := Try.checked) (s := Rows.OpenSpec.upto Rows.depsTellsSpec) (k := Rows.uptoSmall) rfl false ⟨#[], #[.slice none 0 0, .agg #[.int .i64 0, .int .i64 0, .int .i64 0, .int .i64 0, .int .i64 0, .int .i64 0, .int .i64 0], .agg #[.int .i64 0, .int .i64 0, .int .i64 0, .int .i64 0, .int .i64 0, .int .i64 0, .int .i64 0], .agg #[.int .i64 0, .int .i64 0]], []⟩ 8 (by kernel_rfl) (by kernel_rfl) (by kernel_rfl)
      (x := ([.nil, .agg [.lit (.int .i64 0), .lit (.int .i64 0), .lit (.int .i64 0), .lit (.int .i64 0), .lit (.int .i64 0), .lit (.int .i64 0), .lit (.int .i64 0)], .agg [.lit (.int .i64 0), .lit (.int .i64 0), .lit (.int .i64 0), .lit (.int .i64 0), .lit (.int .i64 0), .lit (.int .i64 0), .lit (.int .i64 0)], .agg [.lit (.int .i64 0), .lit (.int .i64 0)]], [], [])) (by kernel_rfl) rfl (by kernel_rfl)) ?_
  intro W base args ds gs before hval hW _ hk _
  exact contract H enc W base args ds gs before hval hW hk
theorem over : Rows.depsTellsUptoRow.holds Try.pinned (Rows.OpenSpec.upto Rows.depsTellsSpec) :=
  OpenClaim.holds_of_cond 8 Try.f8 rfl rfl rfl rfl rfl rfl rfl ⟨rfl, rfl, rfl, rfl, rfl⟩ rfl rfl rfl rfl rfl (by kernel_rfl) Try.func8 (by kernel_rfl)
    (of_decide_eq_true (by kernel_rfl)) (by unfold Func.isWrapper; first | (rw [if_pos (by decide +kernel)]; kernel_rfl) | (rw [if_neg (by decide +kernel)]; exact ⟨rfl, rfl⟩))
    (fun os started H enc _ F => lifted os started H enc F)
/-- The statement of the law. -/
theorem proved : Rows.DepsTellsUptoSaid := over
end depsTells
end Go.Proofs.Ytikodmddomaneaa
