/- Two disks that are told the same are the same, files and bytes; what was told and read may be turned later: the law holds of every input of bulk at most the bound. -/
import Derived.Test.YtmjmbfcfnhnpmaaDkWF
import Derived.Test.YtmjmbfcfnhnpmaaDkK
import Derived.Test.YtmjmbfcfnhnpmaaAm29
namespace Go.Proofs.Ytmjmbfcfnhnpmaa
set_option linter.all false

namespace diskTwins
open Go.ChangeShapes Go.WideShapes Go.ChangeAt Go.RowKit
theorem own : ownKnob Try.prog.godebug = none := by kernel_rfl
set_option maxRecDepth 100000 in
theorem contract (H : Type) (enc : TypeId × Value → H) (W : World) (base : Nat) (args : Array Value) (ds gs : List (DataW H)) (before : List MemPlace)
    (hval : ∀ (j : Nat) t v, Try.f7.params[j]? = some t → args[j]? = some v → Value.okWide Try.prog W .any base t v)
    (hW : DataW.Whole enc Try.prog Try.f7.params.toList Rows.diskTwinsSpec.vars false W args.toList ds gs before) (hk : Rows.uptoSmall H (ds ++ gs) = true) :
    Calls Try.prog 7 args W fun e W' => ∃ v, e = .returned v ∧ Rows.diskTwinsSpec.post enc Try.prog Try.f7 false true false false W args v W' := by
  refine law_contract (tb := 4) (by kernel_rfl) (by kernel_rfl) (shs := [(false, [.slc [.int .i64, .int .i64, .str, .str, .slc [.int .u8], .slc [.int .i64]]])]) (by kernel_rfl) rfl rfl (by kernel_rfl) ?_ ?_ H enc W base args ds gs before hval hW hk
  · intro H ds h
    rcases ds with _ | ⟨d0, _ | ⟨d, ds⟩⟩ <;> first
      | rfl
      | (exact absurd h (by simp [Try.f7]))
  · intro pss hf hw
    simp only [FitA] at hf
    obtain ⟨q0, _, rfl, f0, rfl⟩ := hf
    simp only [wtR] at hw
    obtain ⟨x0, e0, w0⟩ := fit_askR f0 (by omega)
    subst e0
    show FnV Try.prog 7 [.d (.slc 6 x0)] _
    exact v_twins x0 w0
set_option maxRecDepth 100000 in
theorem lifted (os : Os) (started : os.Started) (H : Type) (enc : TypeId × Value → H) (F : Stop.Interp) :
    ReturnsInHanded {} Try.checked os 7 .any ((Rows.OpenSpec.upto Rows.diskTwinsSpec).pre6 enc Try.prog Try.f7 Rows.diskTwinsUptoRow.domain false) (((Rows.OpenSpec.upto Rows.diskTwinsSpec).at F).post enc Try.prog Try.f7 false true false false) := by
  refine returnsInHanded_of_cond (C := Try.checked) (s := Rows.OpenSpec.upto Rows.diskTwinsSpec) (k := Rows.uptoSmall) rfl own started (by kernel_rfl) Try.func7
    (OpenSpec.witness (enc := enc) (C := Try.checked) (s := Rows.OpenSpec.upto Rows.diskTwinsSpec) (k := Rows.uptoSmall) rfl false ⟨#[], #[.slice none 0 0], []⟩ 8 (by kernel_rfl) (by kernel_rfl) (by kernel_rfl)
      (x := ([.nil], [], [])) (by kernel_rfl) rfl (by kernel_rfl)) ?_
  intro W base args ds gs before hval hW _ hk _
  exact contract H enc W base args ds gs before hval hW hk
theorem over : Rows.diskTwinsUptoRow.holds Try.pinned (Rows.OpenSpec.upto Rows.diskTwinsSpec) :=
  OpenClaim.holds_of_cond 7 Try.f7 rfl rfl rfl rfl rfl rfl rfl ⟨rfl, rfl, rfl, rfl, rfl⟩ rfl rfl rfl rfl rfl (by kernel_rfl) Try.func7 (by kernel_rfl)
    (of_decide_eq_true (by kernel_rfl)) (by unfold Func.isWrapper; first | (rw [if_pos (by decide +kernel)]; kernel_rfl) | (rw [if_neg (by decide +kernel)]; exact ⟨rfl, rfl⟩))
    (fun os started H enc _ F => lifted os started H enc F)
/-- The statement of the law. -/
theorem proved : Rows.DiskTwinsUptoSaid := over
end diskTwins
end Go.Proofs.Ytmjmbfcfnhnpmaa
