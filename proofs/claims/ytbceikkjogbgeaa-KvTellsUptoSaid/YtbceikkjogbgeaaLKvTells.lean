/- The law holds of every input of bulk at most the bound. -/
import Derived.Test.YtbceikkjogbgeaaLk11
import Derived.Test.YtbceikkjogbgeaaKvTm
namespace Go.Proofs.Ytbceikkjogbgeaa
set_option linter.all false

theorem fit_span {ps : List PD} (h : FitL [.str, .str] ps) (hw : wtL ps ≤ 1048576) : ∃ a b, ps = [.sc (.string a), .sc (.string b)] ∧ True := by
  simp only [FitL, FitP] at h
  obtain ⟨_, _, rfl, ⟨a, rfl, _⟩, _, _, rfl, ⟨b, rfl, _⟩, rfl⟩ := h
  exact ⟨a, b, rfl, trivial⟩

namespace kvTells
open Go.ChangeShapes Go.WideShapes Go.ChangeAt Go.RowKit
theorem own : ownKnob Try.prog.godebug = none := by kernel_rfl
set_option maxRecDepth 100000 in
theorem contract (H : Type) (enc : TypeId × Value → H) (W : World) (base : Nat) (args : Array Value) (ds gs : List (DataW H)) (before : List MemPlace)
    (hval : ∀ (j : Nat) t v, Try.f7.params[j]? = some t → args[j]? = some v → Value.okWide Try.prog W .any base t v)
    (hW : DataW.Whole enc Try.prog Try.f7.params.toList Rows.kvTellsSpec.vars false W args.toList ds gs before) (hk : Rows.uptoSmall H (ds ++ gs) = true) :
    Calls Try.prog 7 args W fun e W' => ∃ v, e = .returned v ∧ Rows.kvTellsSpec.post enc Try.prog Try.f7 false true false false W args v W' := by
  refine law_contract (tb := 4) (by kernel_rfl) (by kernel_rfl) (shs := [(false, [.slc [.str, .str, .int .i64]]), (false, [.str]), (false, [.str]), (true, [.str, .str])]) (by kernel_rfl) rfl rfl (by kernel_rfl) ?_ ?_ H enc W base args ds gs before hval hW hk
  · intro H ds h
    rcases ds with _ | ⟨d3, _ | ⟨d2, _ | ⟨d1, _ | ⟨d0, _ | ⟨d, ds⟩⟩⟩⟩⟩ <;> first
      | rfl
      | (exact absurd h (by simp [Try.f7]))
  · intro pss hf hw
    simp only [FitA] at hf
    obtain ⟨q0, _, rfl, f0, ⟨q1, _, rfl, f1, ⟨q2, _, rfl, f2, ⟨q3, _, rfl, f3, rfl⟩⟩⟩⟩ := hf
    simp only [wtR] at hw
    obtain ⟨x0, e0, w0⟩ := fit_slc f0 (by omega)
    obtain ⟨x1, e1, w1⟩ := fit_str f1 (by omega)
    obtain ⟨x2, e2, w2⟩ := fit_str f2 (by omega)
    obtain ⟨x3_0, x3_1, e3, w3⟩ := fit_span f3 (by omega)
    subst e0
    subst e1
    subst e2
    subst e3
    show FnV Try.prog 7 [.d (.slc 3 x0), .d (.sc (.string x1)), .d (.sc (.string x2)), .agg ([.sc (.string x3_0), .sc (.string x3_1)].map .d)] _
    exact v_tells x0 x1 x2 ⟨x3_0, x3_1⟩ w0
set_option maxRecDepth 100000 in
theorem lifted (os : Os) (started : os.Started) (H : Type) (enc : TypeId × Value → H) (F : Stop.Interp) :
    ReturnsInHanded {} Try.checked os 7 .any ((Rows.OpenSpec.upto Rows.kvTellsSpec).pre6 enc Try.prog Try.f7 Rows.kvTellsUptoRow.domain false) (((Rows.OpenSpec.upto Rows.kvTellsSpec).at F).post enc Try.prog Try.f7 false true false false) := by
  refine returnsInHanded_of_cond (C := Try.checked) (s := Rows.OpenSpec.upto Rows.kvTellsSpec) (k := Rows.uptoSmall) rfl own started (by kernel_rfl) Try.func7
    (OpenSpec.witness (enc := enc) (C := Try.checked) (s := Rows.OpenSpec.upto Rows.kvTellsSpec) (k := Rows.uptoSmall) rfl false ⟨#[], #[.slice none 0 0, .string .empty, .string .empty, .agg #[.string .empty, .string .empty]], []⟩ 8 (by kernel_rfl) (by kernel_rfl) (by kernel_rfl)
      (x := ([.nil, .lit (.string []), .lit (.string []), .agg [.lit (.string []), .lit (.string [])]], [], [])) (by kernel_rfl) rfl (by kernel_rfl)) ?_
  intro W base args ds gs before hval hW _ hk _
  exact contract H enc W base args ds gs before hval hW hk
theorem over : Rows.kvTellsUptoRow.holds Try.pinned (Rows.OpenSpec.upto Rows.kvTellsSpec) :=
  OpenClaim.holds_of_cond 7 Try.f7 rfl rfl rfl rfl rfl rfl rfl ⟨rfl, rfl, rfl, rfl, rfl⟩ rfl rfl rfl rfl rfl (by kernel_rfl) Try.func7 (by kernel_rfl)
    (of_decide_eq_true (by kernel_rfl)) (by unfold Func.isWrapper; first | (rw [if_pos (by decide +kernel)]; kernel_rfl) | (rw [if_neg (by decide +kernel)]; exact ⟨rfl, rfl⟩))
    (fun os started H enc _ F => lifted os started H enc F)
/-- The statement of the law. -/
theorem proved : Rows.KvTellsUptoSaid := over
end kvTells
end Go.Proofs.Ytbceikkjogbgeaa
