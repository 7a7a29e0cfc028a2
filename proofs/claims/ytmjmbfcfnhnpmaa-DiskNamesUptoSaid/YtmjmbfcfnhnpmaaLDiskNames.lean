/- The law holds of every input of bulk at most the bound. -/
import Derived.Test.YtmjmbfcfnhnpmaaDkW
import Derived.Test.YtmjmbfcfnhnpmaaDkU
import Derived.Test.YtmjmbfcfnhnpmaaAm29
namespace Go.Proofs.Ytmjmbfcfnhnpmaa
set_option linter.all false

namespace diskNames
open Go.ChangeShapes Go.WideShapes Go.ChangeAt Go.RowKit
theorem own : ownKnob Try.prog.godebug = none := by kernel_rfl
set_option maxRecDepth 100000 in
theorem contract (H : Type) (enc : TypeId × Value → H) (W : World) (base : Nat) (args : Array Value) (ds gs : List (DataW H)) (before : List MemPlace)
    (hval : ∀ (j : Nat) t v, Try.f6.params[j]? = some t → args[j]? = some v → Value.okWide Try.prog W .any base t v)
    (hW : DataW.Whole enc Try.prog Try.f6.params.toList Rows.diskNamesSpec.vars false W args.toList ds gs before) (hk : Rows.uptoSmall H (ds ++ gs) = true) :
    Calls Try.prog 6 args W fun e W' => ∃ v, e = .returned v ∧ Rows.diskNamesSpec.post enc Try.prog Try.f6 false true false false W args v W' := by
  refine law_contract (tb := 4) (by kernel_rfl) (by kernel_rfl) (shs := [(false, [.str]), (false, [.str]), (false, [.slc [.int .u8]])]) (by kernel_rfl) rfl rfl (by kernel_rfl) ?_ ?_ H enc W base args ds gs before hval hW hk
  · intro H ds h
    rcases ds with _ | ⟨d2, _ | ⟨d1, _ | ⟨d0, _ | ⟨d, ds⟩⟩⟩⟩ <;> first
      | rfl
      | (exact absurd h (by simp [Try.f6]))
  · intro pss hf hw
    simp only [FitA] at hf
    obtain ⟨q0, _, rfl, f0, ⟨q1, _, rfl, f1, ⟨q2, _, rfl, f2, rfl⟩⟩⟩ := hf
    simp only [wtR] at hw
    obtain ⟨x0, e0, w0⟩ := fit_str f0 (by omega)
    obtain ⟨x1, e1, w1⟩ := fit_str f1 (by omega)
    obtain ⟨x2, e2, w2⟩ := fit_bytesR f2 (by omega)
    subst e0
    subst e1
    subst e2
    show FnV Try.prog 6 [.d (.sc (.string x0)), .d (.sc (.string x1)), .d (.slc 1 x2)] _
    exact v_names x0 x1 x2 w0 w1 w2
set_option maxRecDepth 100000 in
theorem lifted (os : Os) (started : os.Started) (H : Type) (enc : TypeId × Value → H) (F : Stop.Interp) :
    ReturnsInHanded {} Try.checked os 6 .any ((Rows.OpenSpec.upto Rows.diskNamesSpec).pre6 enc Try.prog Try.f6 Rows.diskNamesUptoRow.domain false) (((Rows.OpenSpec.upto Rows.diskNamesSpec).at F).post enc Try.prog Try.f6 false true false false) := by
  refine returnsInHanded_of_cond (C := Try.checked) (s := Rows.OpenSpec.upto Rows.diskNamesSpec) (k := Rows.uptoSmall) rfl own started (by kernel_rfl) Try.func6
    (OpenSpec.witness (enc := enc) (C := Try.checked) (s := Rows.OpenSpec.upto Rows.diskNamesSpec) (k := Rows.uptoSmall) rfl false ⟨#[], #[.string .empty, .string .empty, .slice none 0 0], []⟩ 8 (by kernel_rfl) (by kernel_rfl) (by kernel_rfl)
      (x := ([.lit (.string []), .lit (.string []), .nil], [], [])) (by kernel_rfl) rfl (by kernel_rfl)) ?_
  intro W base args ds gs before hval hW _ hk _
  exact contract H enc W base args ds gs before hval hW hk
theorem over : Rows.diskNamesUptoRow.holds Try.pinned (Rows.OpenSpec.upto Rows.diskNamesSpec) :=
  OpenClaim.holds_of_cond 6 Try.f6 rfl rfl rfl rfl rfl rfl rfl ⟨rfl, rfl, rfl, rfl, rfl⟩ rfl rfl rfl rfl rfl (by kernel_rfl) Try.func6 (by kernel_rfl)
    (of_decide_eq_true (by kernel_rfl)) (by unfold Func.isWrapper; first | (rw [if_pos (by decide +kernel)]; kernel_rfl) | (rw [if_neg (by decide +kernel)]; exact ⟨rfl, rfl⟩))
    (fun os started H enc _ F => lifted os started H enc F)
/-- The statement of the law. -/
theorem proved : Rows.DiskNamesUptoSaid := over
end diskNames
end Go.Proofs.Ytmjmbfcfnhnpmaa
