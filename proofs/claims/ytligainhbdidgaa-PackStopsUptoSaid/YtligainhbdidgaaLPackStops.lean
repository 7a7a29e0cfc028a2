/- The law holds of every input of bulk at most the bound. -/
import Derived.Test.YtligainhbdidgaaLq
import Derived.Test.YtligainhbdidgaaRd6
namespace Go.Proofs.Ytligainhbdidgaa
set_option linter.all false

namespace packStops
open Go.ChangeShapes Go.WideShapes Go.ChangeAt Go.RowKit
theorem own : ownKnob Try.prog.godebug = none := by kernel_rfl
set_option maxRecDepth 100000 in
theorem contract (H : Type) (enc : TypeId × Value → H) (W : World) (base : Nat) (args : Array Value) (ds gs : List (DataW H)) (before : List MemPlace)
    (hval : ∀ (j : Nat) t v, Try.f17.params[j]? = some t → args[j]? = some v → Value.okWide Try.prog W .any base t v)
    (hW : DataW.Whole enc Try.prog Try.f17.params.toList Rows.packStopsSpec.vars false W args.toList ds gs before) (hk : Rows.uptoSmall H (ds ++ gs) = true) :
    Calls Try.prog 17 args W fun e W' => ∃ v, e = .returned v ∧ Rows.packStopsSpec.post enc Try.prog Try.f17 false true false false W args v W' := by
  refine law_contract (tb := 4) (by kernel_rfl) (by kernel_rfl) (shs := [(false, [.slc [.int .u8]]), (false, [.slc [.int .i64, .int .i64, .str, .bool]])]) (by kernel_rfl) rfl rfl (by kernel_rfl) ?_ ?_ H enc W base args ds gs before hval hW hk
  · intro H ds h
    rcases ds with _ | ⟨d1, _ | ⟨d0, _ | ⟨d, ds⟩⟩⟩ <;> first
      | rfl
      | (exact absurd h (by simp [Try.f17]))
  · intro pss hf hw
    simp only [FitA] at hf
    obtain ⟨q0, _, rfl, f0, ⟨q1, _, rfl, f1, rfl⟩⟩ := hf
    have e0 : ∃ x0, q0 = [.slc 1 x0] ∧ ∀ x ∈ x0, FitL [.int .u8] x := by
      rw [FitL] at f0
      obtain ⟨p, r, rfl, h1, h2⟩ := f0
      rw [FitL] at h2; subst h2
      rw [FitP] at h1
      obtain ⟨x0, rfl, h3⟩ := h1
      exact ⟨x0, rfl, h3⟩
    have e1 : ∃ x1, q1 = [.slc 4 x1] ∧ ∀ x ∈ x1, FitL [.int .i64, .int .i64, .str, .bool] x := by
      rw [FitL] at f1
      obtain ⟨p, r, rfl, h1, h2⟩ := f1
      rw [FitL] at h2; subst h2
      rw [FitP] at h1
      obtain ⟨x0, rfl, h3⟩ := h1
      exact ⟨x0, rfl, h3⟩
    obtain ⟨x0, rfl, w0⟩ := e0
    obtain ⟨x1, rfl, w1⟩ := e1
    simp only [wtR, wtL, wtP] at hw
    exact v_stops x0 x1 (fit_isB w0 (by omega)) (fit_isIt w1 (by omega))
set_option maxRecDepth 100000 in
theorem lifted (os : Os) (started : os.Started) (H : Type) (enc : TypeId × Value → H) (F : Stop.Interp) :
    ReturnsInHanded {} Try.checked os 17 .any ((Rows.OpenSpec.upto Rows.packStopsSpec).pre6 enc Try.prog Try.f17 Rows.packStopsUptoRow.domain false) (((Rows.OpenSpec.upto Rows.packStopsSpec).at F).post enc Try.prog Try.f17 false true false false) := by
  refine returnsInHanded_of_cond (C := Try.checked) (s := Rows.OpenSpec.upto Rows.packStopsSpec) (k := Rows.uptoSmall) rfl own started (by kernel_rfl) Try.func17
    (OpenSpec.witness (enc := enc) (C := Try.checked) (s := Rows.OpenSpec.upto Rows.packStopsSpec) (k := Rows.uptoSmall) rfl false ⟨#[], #[.slice none 0 0, .slice none 0 0], []⟩ 8 (by kernel_rfl) (by kernel_rfl) (by kernel_rfl)
      (x := ([.nil, .nil], [], [])) (by kernel_rfl) rfl (by kernel_rfl)) ?_
  intro W base args ds gs before hval hW _ hk _
  exact contract H enc W base args ds gs before hval hW hk
theorem over : Rows.packStopsUptoRow.holds Try.pinned (Rows.OpenSpec.upto Rows.packStopsSpec) :=
  OpenClaim.holds_of_cond 17 Try.f17 rfl rfl rfl rfl rfl rfl rfl ⟨rfl, rfl, rfl, rfl, rfl⟩ rfl rfl rfl rfl rfl (by kernel_rfl) Try.func17 (by kernel_rfl)
    (of_decide_eq_true (by kernel_rfl)) (by unfold Func.isWrapper; first | (rw [if_pos (by decide +kernel)]; kernel_rfl) | (rw [if_neg (by decide +kernel)]; exact ⟨rfl, rfl⟩))
    (fun os started H enc _ F => lifted os started H enc F)
/-- The statement of the law. -/
theorem proved : Rows.PackStopsUptoSaid := over
end packStops
end Go.Proofs.Ytligainhbdidgaa
