/- The law holds of every input of bulk at most the bound. -/
import Derived.Test.YtijknhdaipnjaaaLk13
import Derived.Test.YtijknhdaipnjaaaStB
namespace Go.Proofs.Ytijknhdaipnjaaa
set_option linter.all false

namespace stateApart
open Go.ChangeShapes Go.WideShapes Go.ChangeAt Go.RowKit
theorem own : ownKnob Try.prog.godebug = none := by kernel_rfl
set_option maxRecDepth 100000 in
theorem contract (H : Type) (enc : TypeId × Value → H) (W : World) (base : Nat) (args : Array Value) (ds gs : List (DataW H)) (before : List MemPlace)
    (hval : ∀ (j : Nat) t v, Try.f5.params[j]? = some t → args[j]? = some v → Value.okWide Try.prog W .any base t v)
    (hW : DataW.Whole enc Try.prog Try.f5.params.toList Rows.stateApartSpec.vars false W args.toList ds gs before) (hk : Rows.uptoSmall H (ds ++ gs) = true) :
    Calls Try.prog 5 args W fun e W' => ∃ v, e = .returned v ∧ Rows.stateApartSpec.post enc Try.prog Try.f5 false true false false W args v W' := by
  refine law_contract (tb := 4) (by kernel_rfl) (by kernel_rfl) (shs := [(false, [.slc [.int .i64, .int .i64, .int .i64, .str, .str, .str, .str]]), (true, [.int .i64, .int .i64, .int .i64, .str, .str, .str, .str]), (true, [.int .i64, .int .i64, .int .i64, .str, .str, .str, .str])]) (by kernel_rfl) rfl rfl (by kernel_rfl) ?_ ?_ H enc W base args ds gs before hval hW hk
  · intro H ds h
    rcases ds with _ | ⟨d2, _ | ⟨d1, _ | ⟨d0, _ | ⟨d, ds⟩⟩⟩⟩ <;> first
      | rfl
      | (exact absurd h (by simp [Try.f5]))
  · intro pss hf hw
    simp only [FitA] at hf
    obtain ⟨q0, _, rfl, f0, ⟨q1, _, rfl, f1, ⟨q2, _, rfl, f2, rfl⟩⟩⟩ := hf
    simp only [wtR] at hw
    obtain ⟨x0, e0, w0⟩ := fit_cmdR f0 (by omega)
    obtain ⟨x1_0, x1_1, x1_2, x1_3, x1_4, x1_5, x1_6, e1, w1⟩ := fit_cmd f1 (by omega)
    obtain ⟨x2_0, x2_1, x2_2, x2_3, x2_4, x2_5, x2_6, e2, w2⟩ := fit_cmd f2 (by omega)
    subst e0
    subst e1
    subst e2
    show FnV Try.prog 5 [.d (.slc 7 x0), .agg ([.sc (.int .i64 x1_0), .sc (.int .i64 x1_1), .sc (.int .i64 x1_2), .sc (.string x1_3), .sc (.string x1_4), .sc (.string x1_5), .sc (.string x1_6)].map .d), .agg ([.sc (.int .i64 x2_0), .sc (.int .i64 x2_1), .sc (.int .i64 x2_2), .sc (.string x2_3), .sc (.string x2_4), .sc (.string x2_5), .sc (.string x2_6)].map .d)] _
    exact v_apart x0 ⟨x1_0, x1_1, x1_2, x1_3, x1_4, x1_5, x1_6⟩ ⟨x2_0, x2_1, x2_2, x2_3, x2_4, x2_5, x2_6⟩ w0 w1 w2
set_option maxRecDepth 100000 in
theorem lifted (os : Os) (started : os.Started) (H : Type) (enc : TypeId × Value → H) (F : Stop.Interp) :
    ReturnsInHanded {} Try.checked os 5 .any ((Rows.OpenSpec.upto Rows.stateApartSpec).pre6 enc Try.prog Try.f5 Rows.stateApartUptoRow.domain false) (((Rows.OpenSpec.upto Rows.stateApartSpec).at F).post enc Try.prog Try.f5 false true false false) := by
  refine returnsInHanded_of_cond (C := Try.checked) (s := Rows.OpenSpec.upto Rows.stateApartSpec) (k := Rows.uptoSmall) rfl own started (by kernel_rfl) Try.func5
    (OpenSpec.witness (enc := enc) (C := Try.checked) (s := Rows.OpenSpec.upto Rows.stateApartSpec) (k := Rows.uptoSmall) rfl false ⟨#[], #[.slice none 0 0, .agg #[.int .i64 0, .int .i64 0, .int .i64 0, .string .empty, .string .empty, .string .empty, .string .empty], .agg #[.int .i64 0, .int .i64 0, .int .i64 0, .string .empty, .string .empty, .string .empty, .string .empty]], []⟩ 8 (by kernel_rfl) (by kernel_rfl) (by kernel_rfl)
      (x := ([.nil, .agg [.lit (.int .i64 0), .lit (.int .i64 0), .lit (.int .i64 0), .lit (.string []), .lit (.string []), .lit (.string []), .lit (.string [])], .agg [.lit (.int .i64 0), .lit (.int .i64 0), .lit (.int .i64 0), .lit (.string []), .lit (.string []), .lit (.string []), .lit (.string [])]], [], [])) (by kernel_rfl) rfl (by kernel_rfl)) ?_
  intro W base args ds gs before hval hW _ hk _
  exact contract H enc W base args ds gs before hval hW hk
theorem over : Rows.stateApartUptoRow.holds Try.pinned (Rows.OpenSpec.upto Rows.stateApartSpec) :=
  OpenClaim.holds_of_cond 5 Try.f5 rfl rfl rfl rfl rfl rfl rfl ⟨rfl, rfl, rfl, rfl, rfl⟩ rfl rfl rfl rfl rfl (by kernel_rfl) Try.func5 (by kernel_rfl)
    (of_decide_eq_true (by kernel_rfl)) (by unfold Func.isWrapper; first | (rw [if_pos (by decide +kernel)]; kernel_rfl) | (rw [if_neg (by decide +kernel)]; exact ⟨rfl, rfl⟩))
    (fun os started H enc _ F => lifted os started H enc F)
/-- The statement of the law. -/
theorem proved : Rows.StateApartUptoSaid := over
end stateApart
end Go.Proofs.Ytijknhdaipnjaaa
