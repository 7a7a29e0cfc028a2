/- The law holds of every input of bulk at most the bound. -/
import Derived.Test.YtghkcmgiagodlaaGF
namespace Go.Proofs.Ytghkcmgiagodlaa
set_option linter.all false
theorem v_iapartD (a b : Deps) (xs ys : List (List PD)) (ha : rDeps a) (hb : rDeps b) (hp0 : isC xs) (hp1 : isC ys) : FnV Try.prog 5 [.agg a.cells, .agg b.cells, .d (.slc 7 xs), .d (.slc 7 ys)] (boolD true) := by
  obtain ⟨d0, d1, d2, d3, d4, d5, d6⟩ := a
  obtain ⟨e0, e1, e2, e3, e4, e5, e6⟩ := b
  exact v_iapart d0 e0 d1 e1 d2 e2 d3 e3 d4 e4 d5 e5 d6 e6 xs ys ha hb hp0 hp1

namespace imageApart
open Go.ChangeShapes Go.WideShapes Go.ChangeAt Go.RowKit
theorem own : ownKnob Try.prog.godebug = none := by kernel_rfl
set_option maxRecDepth 100000 in
theorem contract (H : Type) (enc : TypeId × Value → H) (W : World) (base : Nat) (args : Array Value) (ds gs : List (DataW H)) (before : List MemPlace)
    (hval : ∀ (j : Nat) t v, Try.f5.params[j]? = some t → args[j]? = some v → Value.okWide Try.prog W .any base t v)
    (hW : DataW.Whole enc Try.prog Try.f5.params.toList Rows.imageApartSpec.vars false W args.toList ds gs before) (hk : Rows.uptoSmall H (ds ++ gs) = true) :
    Calls Try.prog 5 args W fun e W' => ∃ v, e = .returned v ∧ Rows.imageApartSpec.post enc Try.prog Try.f5 false true false false W args v W' := by
  refine law_contract (tb := 4) (by kernel_rfl) (by kernel_rfl) (shs := [(true, [.int .i64, .int .i64, .int .i64, .int .i64, .int .i64, .int .i64, .int .i64]), (true, [.int .i64, .int .i64, .int .i64, .int .i64, .int .i64, .int .i64, .int .i64]), (false, [.slc [.int .i64, .int .i64, .int .i64, .str, .str, .str, .str]]), (false, [.slc [.int .i64, .int .i64, .int .i64, .str, .str, .str, .str]])]) (by kernel_rfl) rfl rfl (by kernel_rfl) ?_ ?_ H enc W base args ds gs before hval hW hk
  · intro H ds h
    rcases ds with _ | ⟨d3, _ | ⟨d2, _ | ⟨d1, _ | ⟨d0, _ | ⟨d, ds⟩⟩⟩⟩⟩ <;> first
      | rfl
      | (exact absurd h (by simp [Try.f5]))
  · intro pss hf hw
    simp only [FitA] at hf
    obtain ⟨q0, _, rfl, f0, ⟨q1, _, rfl, f1, ⟨q2, _, rfl, f2, ⟨q3, _, rfl, f3, rfl⟩⟩⟩⟩ := hf
    simp only [wtR] at hw
    obtain ⟨x0_0, x0_1, x0_2, x0_3, x0_4, x0_5, x0_6, e0, w0⟩ := fit_deps f0 (by omega)
    obtain ⟨x1_0, x1_1, x1_2, x1_3, x1_4, x1_5, x1_6, e1, w1⟩ := fit_deps f1 (by omega)
    obtain ⟨x2, e2, w2⟩ := fit_cmdR f2 (by omega)
    obtain ⟨x3, e3, w3⟩ := fit_cmdR f3 (by omega)
    subst e0
    subst e1
    subst e2
    subst e3
    show FnV Try.prog 5 [.agg ([.sc (.int .i64 x0_0), .sc (.int .i64 x0_1), .sc (.int .i64 x0_2), .sc (.int .i64 x0_3), .sc (.int .i64 x0_4), .sc (.int .i64 x0_5), .sc (.int .i64 x0_6)].map .d), .agg ([.sc (.int .i64 x1_0), .sc (.int .i64 x1_1), .sc (.int .i64 x1_2), .sc (.int .i64 x1_3), .sc (.int .i64 x1_4), .sc (.int .i64 x1_5), .sc (.int .i64 x1_6)].map .d), .d (.slc 7 x2), .d (.slc 7 x3)] _
    exact v_iapartD ⟨x0_0, x0_1, x0_2, x0_3, x0_4, x0_5, x0_6⟩ ⟨x1_0, x1_1, x1_2, x1_3, x1_4, x1_5, x1_6⟩ x2 x3 w0 w1 w2 w3
set_option maxRecDepth 100000 in
theorem lifted (os : Os) (started : os.Started) (H : Type) (enc : TypeId × Value → H) (F : Stop.Interp) :
    ReturnsInHanded {} Try.checked os 5 .any ((Rows.OpenSpec.upto Rows.imageApartSpec).pre6 enc Try.prog Try.f5 Rows.imageApartUptoRow.domain false) (((Rows.OpenSpec.upto Rows.imageApartSpec).at F).post enc Try.prog Try.f5 false true false false) := by
  refine returnsInHanded_of_cond (C := Try.checked) (s := Rows.OpenSpec.upto Rows.imageApartSpec) (k := Rows.uptoSmall) rfl own started (by kernel_rfl) Try.func5
    (OpenSpec.witness (enc := enc) (C := Try.checked) (s := Rows.OpenSpec.upto Rows.imageApartSpec) (k := Rows.uptoSmall) rfl false ⟨#[], #[.agg #[.int .i64 0, .int .i64 0, .int .i64 0, .int .i64 0, .int .i64 0, .int .i64 0, .int .i64 0], .agg #[.int .i64 0, .int .i64 0, .int .i64 0, .int .i64 0, .int .i64 0, .int .i64 0, .int .i64 0], .slice none 0 0, .slice none 0 0], []⟩ 8 (by kernel_rfl) (by kernel_rfl) (by kernel_rfl)
      (x := ([.agg [.lit (.int .i64 0), .lit (.int .i64 0), .lit (.int .i64 0), .lit (.int .i64 0), .lit (.int .i64 0), .lit (.int .i64 0), .lit (.int .i64 0)], .agg [.lit (.int .i64 0), .lit (.int .i64 0), .lit (.int .i64 0), .lit (.int .i64 0), .lit (.int .i64 0), .lit (.int .i64 0), .lit (.int .i64 0)], .nil, .nil], [], [])) (by kernel_rfl) rfl (by kernel_rfl)) ?_
  intro W base args ds gs before hval hW _ hk _
  exact contract H enc W base args ds gs before hval hW hk
theorem over : Rows.imageApartUptoRow.holds Try.pinned (Rows.OpenSpec.upto Rows.imageApartSpec) :=
  OpenClaim.holds_of_cond 5 Try.f5 rfl rfl rfl rfl rfl rfl rfl ⟨rfl, rfl, rfl, rfl, rfl⟩ rfl rfl rfl rfl rfl (by kernel_rfl) Try.func5 (by kernel_rfl)
    (of_decide_eq_true (by kernel_rfl)) (by unfold Func.isWrapper; first | (rw [if_pos (by decide +kernel)]; kernel_rfl) | (rw [if_neg (by decide +kernel)]; exact ⟨rfl, rfl⟩))
    (fun os started H enc _ F => lifted os started H enc F)
/-- The statement of the law. -/
theorem proved : Rows.ImageApartUptoSaid := over
end imageApart
end Go.Proofs.Ytghkcmgiagodlaa
