/- The law holds of every input of bulk at most the bound. -/
import Derived.Test.YtghkcmgiagodlaaGF
namespace Go.Proofs.Ytghkcmgiagodlaa
set_option linter.all false
theorem v_ibackD (d : Deps) (xs : List (List PD)) (at_ burst : Int) (hd : rDeps d) (hp0 : isC xs) (hat : r64 at_) (hbu : u32 burst) : FnV Try.prog 9 [.agg d.cells, .d (.slc 7 xs), .d (.sc (.int .i64 at_)), .d (.sc (.int .u32 burst))] (boolD true) := by
  obtain ⟨d0, d1, d2, d3, d4, d5, d6⟩ := d
  exact v_iback d0 d1 d2 d3 d4 d5 d6 at_ burst xs hd hp0 hat hbu

namespace imageBack
open Go.ChangeShapes Go.WideShapes Go.ChangeAt Go.RowKit
theorem own : ownKnob Try.prog.godebug = none := by kernel_rfl
set_option maxRecDepth 100000 in
theorem contract (H : Type) (enc : TypeId × Value → H) (W : World) (base : Nat) (args : Array Value) (ds gs : List (DataW H)) (before : List MemPlace)
    (hval : ∀ (j : Nat) t v, Try.f9.params[j]? = some t → args[j]? = some v → Value.okWide Try.prog W .any base t v)
    (hW : DataW.Whole enc Try.prog Try.f9.params.toList Rows.imageBackSpec.vars false W args.toList ds gs before) (hk : Rows.uptoSmall H (ds ++ gs) = true) :
    Calls Try.prog 9 args W fun e W' => ∃ v, e = .returned v ∧ Rows.imageBackSpec.post enc Try.prog Try.f9 false true false false W args v W' := by
  refine law_contract (tb := 4) (by kernel_rfl) (by kernel_rfl) (shs := [(true, [.int .i64, .int .i64, .int .i64, .int .i64, .int .i64, .int .i64, .int .i64]), (false, [.slc [.int .i64, .int .i64, .int .i64, .str, .str, .str, .str]]), (false, [.int .i64]), (false, [.int .u32])]) (by kernel_rfl) rfl rfl (by kernel_rfl) ?_ ?_ H enc W base args ds gs before hval hW hk
  · intro H ds h
    rcases ds with _ | ⟨d3, _ | ⟨d2, _ | ⟨d1, _ | ⟨d0, _ | ⟨d, ds⟩⟩⟩⟩⟩ <;> first
      | rfl
      | (exact absurd h (by simp [Try.f9]))
  · intro pss hf hw
    simp only [FitA] at hf
    obtain ⟨q0, _, rfl, f0, ⟨q1, _, rfl, f1, ⟨q2, _, rfl, f2, ⟨q3, _, rfl, f3, rfl⟩⟩⟩⟩ := hf
    simp only [wtR] at hw
    obtain ⟨x0_0, x0_1, x0_2, x0_3, x0_4, x0_5, x0_6, e0, w0⟩ := fit_deps f0 (by omega)
    obtain ⟨x1, e1, w1⟩ := fit_cmdR f1 (by omega)
    subst e0
    subst e1
    obtain ⟨x2, rfl, w2⟩ := fit_int f2
    obtain ⟨x3, rfl, w3⟩ := fit_u32 f3
    show FnV Try.prog 9 [.agg ([.sc (.int .i64 x0_0), .sc (.int .i64 x0_1), .sc (.int .i64 x0_2), .sc (.int .i64 x0_3), .sc (.int .i64 x0_4), .sc (.int .i64 x0_5), .sc (.int .i64 x0_6)].map .d), .d (.slc 7 x1), .d (.sc (.int .i64 x2)), .d (.sc (.int .u32 x3))] _
    exact v_ibackD ⟨x0_0, x0_1, x0_2, x0_3, x0_4, x0_5, x0_6⟩ x1 x2 x3 w0 w1 w2 w3
set_option maxRecDepth 100000 in
theorem lifted (os : Os) (started : os.Started) (H : Type) (enc : TypeId × Value → H) (F : Stop.Interp) :
    ReturnsInHanded {} Try.checked os 9 .any ((Rows.OpenSpec.upto Rows.imageBackSpec).pre6 enc Try.prog Try.f9 Rows.imageBackUptoRow.domain false) (((Rows.OpenSpec.upto Rows.imageBackSpec).at F).post enc Try.prog Try.f9 false true false false) := by
  refine returnsInHanded_of_cond (C := Try.checked) (s := Rows.OpenSpec.upto Rows.imageBackSpec) (k := Rows.uptoSmall) rfl own started (by kernel_rfl) Try.func9
    (OpenSpec.witness (enc := enc) (C := Try.checked) (s := Rows.OpenSpec.upto Rows.imageBackSpec) (k := Rows.uptoSmall) rfl false ⟨#[], #[.agg #[.int .i64 0, .int .i64 0, .int .i64 0, .int .i64 0, .int .i64 0, .int .i64 0, .int .i64 0], .slice none 0 0, .int .i64 0, .int .u32 0], []⟩ 8 (by kernel_rfl) (by kernel_rfl) (by kernel_rfl)
      (x := ([.agg [.lit (.int .i64 0), .lit (.int .i64 0), .lit (.int .i64 0), .lit (.int .i64 0), .lit (.int .i64 0), .lit (.int .i64 0), .lit (.int .i64 0)], .nil, .lit (.int .i64 0), .lit (.int .u32 0)], [], [])) (by kernel_rfl) rfl (by kernel_rfl)) ?_
  intro W base args ds gs before hval hW _ hk _
  exact contract H enc W base args ds gs before hval hW hk
theorem over : Rows.imageBackUptoRow.holds Try.pinned (Rows.OpenSpec.upto Rows.imageBackSpec) :=
  OpenClaim.holds_of_cond 9 Try.f9 rfl rfl rfl rfl rfl rfl rfl ⟨rfl, rfl, rfl, rfl, rfl⟩ rfl rfl rfl rfl rfl (by kernel_rfl) Try.func9 (by kernel_rfl)
    (of_decide_eq_true (by kernel_rfl)) (by unfold Func.isWrapper; first | (rw [if_pos (by decide +kernel)]; kernel_rfl) | (rw [if_neg (by decide +kernel)]; exact ⟨rfl, rfl⟩))
    (fun os started H enc _ F => lifted os started H enc F)
/-- The statement of the law. -/
theorem proved : Rows.ImageBackUptoSaid := over
end imageBack
end Go.Proofs.Ytghkcmgiagodlaa
