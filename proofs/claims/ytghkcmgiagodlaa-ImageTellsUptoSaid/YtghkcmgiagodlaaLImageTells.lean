/- The law holds of every input of bulk at most the bound. -/
import Derived.Test.YtghkcmgiagodlaaGF
import Derived.Test.YtghkcmgiagodlaaGB
namespace Go.Proofs.Ytghkcmgiagodlaa
set_option linter.all false
theorem v_itellsD (d : Deps) (xs ys : List (List PD)) (sm : Bool) (hd : rDeps d) (hp0 : isC xs) (hp1 : isB8 ys) : FnV Try.prog 4 [.agg d.cells, .d (.slc 7 xs), .d (.slc 1 ys), .d (.sc (.bool sm))] (boolD true) := by
  obtain ⟨d0, d1, d2, d3, d4, d5, d6⟩ := d
  exact v_itells d0 d1 d2 d3 d4 d5 d6 xs ys sm hd hp0 hp1

namespace imageTells
open Go.ChangeShapes Go.WideShapes Go.ChangeAt Go.RowKit
theorem own : ownKnob Try.prog.godebug = none := by kernel_rfl
set_option maxRecDepth 100000 in
theorem contract (H : Type) (enc : TypeId × Value → H) (W : World) (base : Nat) (args : Array Value) (ds gs : List (DataW H)) (before : List MemPlace)
    (hval : ∀ (j : Nat) t v, Try.f4.params[j]? = some t → args[j]? = some v → Value.okWide Try.prog W .any base t v)
    (hW : DataW.Whole enc Try.prog Try.f4.params.toList Rows.imageTellsSpec.vars false W args.toList ds gs before) (hk : Rows.uptoSmall H (ds ++ gs) = true) :
    Calls Try.prog 4 args W fun e W' => ∃ v, e = .returned v ∧ Rows.imageTellsSpec.post enc Try.prog Try.f4 false true false false W args v W' := by
  refine law_contract (tb := 4) (by kernel_rfl) (by kernel_rfl) (shs := [(true, [.int .i64, .int .i64, .int .i64, .int .i64, .int .i64, .int .i64, .int .i64]), (false, [.slc [.int .i64, .int .i64, .int .i64, .str, .str, .str, .str]]), (false, [.slc [.int .u8]]), (false, [.bool])]) (by kernel_rfl) rfl rfl (by kernel_rfl) ?_ ?_ H enc W base args ds gs before hval hW hk
  · intro H ds h
    rcases ds with _ | ⟨d3, _ | ⟨d2, _ | ⟨d1, _ | ⟨d0, _ | ⟨d, ds⟩⟩⟩⟩⟩ <;> first
      | rfl
      | (exact absurd h (by simp [Try.f4]))
  · intro pss hf hw
    simp only [FitA] at hf
    obtain ⟨q0, _, rfl, f0, ⟨q1, _, rfl, f1, ⟨q2, _, rfl, f2, ⟨q3, _, rfl, f3, rfl⟩⟩⟩⟩ := hf
    simp only [wtR] at hw
    obtain ⟨x0_0, x0_1, x0_2, x0_3, x0_4, x0_5, x0_6, e0, w0⟩ := fit_deps f0 (by omega)
    obtain ⟨x1, e1, w1⟩ := fit_cmdR f1 (by omega)
    obtain ⟨x2, e2, w2⟩ := fit_b8 f2 (by omega)
    subst e0
    subst e1
    subst e2
    obtain ⟨x3, rfl⟩ := fit_bool f3
    show FnV Try.prog 4 [.agg ([.sc (.int .i64 x0_0), .sc (.int .i64 x0_1), .sc (.int .i64 x0_2), .sc (.int .i64 x0_3), .sc (.int .i64 x0_4), .sc (.int .i64 x0_5), .sc (.int .i64 x0_6)].map .d), .d (.slc 7 x1), .d (.slc 1 x2), .d (.sc (.bool x3))] _
    exact v_itellsD ⟨x0_0, x0_1, x0_2, x0_3, x0_4, x0_5, x0_6⟩ x1 x2 x3 w0 w1 w2
set_option maxRecDepth 100000 in
theorem lifted (os : Os) (started : os.Started) (H : Type) (enc : TypeId × Value → H) (F : Stop.Interp) :
    ReturnsInHanded {} Try.checked os 4 .any ((Rows.OpenSpec.upto Rows.imageTellsSpec).pre6 enc Try.prog Try.f4 Rows.imageTellsUptoRow.domain false) (((Rows.OpenSpec.upto Rows.imageTellsSpec).at F).post enc Try.prog Try.f4 false true false false) := by
  refine returnsInHanded_of_cond (C := Try.checked) (s := Rows.OpenSpec.upto Rows.imageTellsSpec) (k := Rows.uptoSmall) rfl own started (by kernel_rfl) Try.func4
    (OpenSpec.witness (enc := enc) (C := Try.checked) (s := Rows.OpenSpec.upto Rows.imageTellsSpec) (k := Rows.uptoSmall) rfl false ⟨#[], #[.agg #[.int .i64 0, .int .i64 0, .int .i64 0, .int .i64 0, .int .i64 0, .int .i64 0, .int .i64 0], .slice none 0 0, .slice none 0 0, .bool false], []⟩ 8 (by kernel_rfl) (by kernel_rfl) (by kernel_rfl)
      (x := ([.agg [.lit (.int .i64 0), .lit (.int .i64 0), .lit (.int .i64 0), .lit (.int .i64 0), .lit (.int .i64 0), .lit (.int .i64 0), .lit (.int .i64 0)], .nil, .nil, .lit (.bool false)], [], [])) (by kernel_rfl) rfl (by kernel_rfl)) ?_
  intro W base args ds gs before hval hW _ hk _
  exact contract H enc W base args ds gs before hval hW hk
theorem over : Rows.imageTellsUptoRow.holds Try.pinned (Rows.OpenSpec.upto Rows.imageTellsSpec) :=
  OpenClaim.holds_of_cond 4 Try.f4 rfl rfl rfl rfl rfl rfl rfl ⟨rfl, rfl, rfl, rfl, rfl⟩ rfl rfl rfl rfl rfl (by kernel_rfl) Try.func4 (by kernel_rfl)
    (of_decide_eq_true (by kernel_rfl)) (by unfold Func.isWrapper; first | (rw [if_pos (by decide +kernel)]; kernel_rfl) | (rw [if_neg (by decide +kernel)]; exact ⟨rfl, rfl⟩))
    (fun os started H enc _ F => lifted os started H enc F)
/-- The statement of the law. -/
theorem proved : Rows.ImageTellsUptoSaid := over
end imageTells
end Go.Proofs.Ytghkcmgiagodlaa
