/- The law holds of every input of bulk at most the bound. -/
import Derived.Test.YtligainhbdidgaaLq
import Derived.Test.YtligainhbdidgaaRd14
namespace Go.Proofs.Ytligainhbdidgaa
set_option linter.all false

namespace packBack
open Go.ChangeShapes Go.WideShapes Go.ChangeAt Go.RowKit
theorem own : ownKnob Try.prog.godebug = none := by kernel_rfl
set_option maxRecDepth 100000 in
theorem contract (H : Type) (enc : TypeId × Value → H) (W : World) (base : Nat) (args : Array Value) (ds gs : List (DataW H)) (before : List MemPlace)
    (hval : ∀ (j : Nat) t v, Try.f19.params[j]? = some t → args[j]? = some v → Value.okWide Try.prog W .any base t v)
    (hW : DataW.Whole enc Try.prog Try.f19.params.toList Rows.packBackSpec.vars false W args.toList ds gs before) (hk : Rows.uptoSmall H (ds ++ gs) = true) :
    Calls Try.prog 19 args W fun e W' => ∃ v, e = .returned v ∧ Rows.packBackSpec.post enc Try.prog Try.f19 false true false false W args v W' := by
  refine law_contract (tb := 4) (by kernel_rfl) (by kernel_rfl) (shs := [(false, [.slc [.int .i64, .int .i64, .str, .bool]]), (false, [.slc [.int .u8]]), (false, [.int .i64])]) (by kernel_rfl) rfl rfl (by kernel_rfl) ?_ ?_ H enc W base args ds gs before hval hW hk
  · intro H ds h
    rcases ds with _ | ⟨d2, _ | ⟨d1, _ | ⟨d0, _ | ⟨d, ds⟩⟩⟩⟩ <;> first
      | rfl
      | (exact absurd h (by simp [Try.f19]))
  · intro pss hf hw
    simp only [FitA] at hf
    obtain ⟨q0, _, rfl, f0, ⟨q1, _, rfl, f1, ⟨q2, _, rfl, f2, rfl⟩⟩⟩ := hf
    have e0 : ∃ x0, q0 = [.slc 4 x0] ∧ ∀ x ∈ x0, FitL [.int .i64, .int .i64, .str, .bool] x := by
      rw [FitL] at f0
      obtain ⟨p, r, rfl, h1, h2⟩ := f0
      rw [FitL] at h2; subst h2
      rw [FitP] at h1
      obtain ⟨x0, rfl, h3⟩ := h1
      exact ⟨x0, rfl, h3⟩
    have e1 : ∃ x1, q1 = [.slc 1 x1] ∧ ∀ x ∈ x1, FitL [.int .u8] x := by
      rw [FitL] at f1
      obtain ⟨p, r, rfl, h1, h2⟩ := f1
      rw [FitL] at h2; subst h2
      rw [FitP] at h1
      obtain ⟨x0, rfl, h3⟩ := h1
      exact ⟨x0, rfl, h3⟩
    have e2 : ∃ x2, q2 = [.sc (.int .i64 x2)] ∧ r64 x2 := by
      rw [FitL] at f2
      obtain ⟨p, r, rfl, h1, h2⟩ := f2
      rw [FitL] at h2; subst h2
      rw [FitP] at h1
      obtain ⟨x0, rfl, h3⟩ := h1
      refine ⟨x0, rfl, ?_⟩
      exact wf_i64 h3
    obtain ⟨x0, rfl, w0⟩ := e0
    obtain ⟨x1, rfl, w1⟩ := e1
    obtain ⟨x2, rfl, w2⟩ := e2
    simp only [wtR, wtL, wtP] at hw
    exact v_packback x0 x1 x2 (fit_isIt w0 (by omega)) (fit_isB w1 (by omega)) w2
set_option maxRecDepth 100000 in
theorem lifted (os : Os) (started : os.Started) (H : Type) (enc : TypeId × Value → H) (F : Stop.Interp) :
    ReturnsInHanded {} Try.checked os 19 .any ((Rows.OpenSpec.upto Rows.packBackSpec).pre6 enc Try.prog Try.f19 Rows.packBackUptoRow.domain false) (((Rows.OpenSpec.upto Rows.packBackSpec).at F).post enc Try.prog Try.f19 false true false false) := by
  refine returnsInHanded_of_cond (C := Try.checked) (s := Rows.OpenSpec.upto Rows.packBackSpec) (k := Rows.uptoSmall) rfl own started (by kernel_rfl) Try.func19
    (OpenSpec.witness (enc := enc) (C := Try.checked) (s := Rows.OpenSpec.upto Rows.packBackSpec) (k := Rows.uptoSmall) rfl false ⟨#[], #[.slice none 0 0, .slice none 0 0, .int .i64 0], []⟩ 8 (by kernel_rfl) (by kernel_rfl) (by kernel_rfl)
      (x := ([.nil, .nil, .lit (.int .i64 0)], [], [])) (by kernel_rfl) rfl (by kernel_rfl)) ?_
  intro W base args ds gs before hval hW _ hk _
  exact contract H enc W base args ds gs before hval hW hk
theorem over : Rows.packBackUptoRow.holds Try.pinned (Rows.OpenSpec.upto Rows.packBackSpec) :=
  OpenClaim.holds_of_cond 19 Try.f19 rfl rfl rfl rfl rfl rfl rfl ⟨rfl, rfl, rfl, rfl, rfl⟩ rfl rfl rfl rfl rfl (by kernel_rfl) Try.func19 (by kernel_rfl)
    (of_decide_eq_true (by kernel_rfl)) (by unfold Func.isWrapper; first | (rw [if_pos (by decide +kernel)]; kernel_rfl) | (rw [if_neg (by decide +kernel)]; exact ⟨rfl, rfl⟩))
    (fun os started H enc _ F => lifted os started H enc F)
/-- The statement of the law. -/
theorem proved : Rows.PackBackUptoSaid := over
end packBack
end Go.Proofs.Ytligainhbdidgaa
