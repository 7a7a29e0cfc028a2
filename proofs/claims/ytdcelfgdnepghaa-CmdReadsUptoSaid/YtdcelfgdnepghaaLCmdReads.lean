/- The law holds of every input of bulk at most the bound. -/
import Derived.Test.YtdcelfgdnepghaaLp
import Derived.Test.YtdcelfgdnepghaaRdL
namespace Go.Proofs.Ytdcelfgdnepghaa
set_option linter.all false

namespace cmdReads
open Go.ChangeShapes Go.WideShapes Go.ChangeAt Go.RowKit
theorem own : ownKnob Try.prog.godebug = none := by kernel_rfl
set_option maxRecDepth 100000 in
theorem contract (H : Type) (enc : TypeId × Value → H) (W : World) (base : Nat) (args : Array Value) (ds gs : List (DataW H)) (before : List MemPlace)
    (hval : ∀ (j : Nat) t v, Try.f7.params[j]? = some t → args[j]? = some v → Value.okWide Try.prog W .any base t v)
    (hW : DataW.Whole enc Try.prog Try.f7.params.toList Rows.cmdReadsSpec.vars false W args.toList ds gs before) (hk : Rows.uptoSmall H (ds ++ gs) = true) :
    Calls Try.prog 7 args W fun e W' => ∃ v, e = .returned v ∧ Rows.cmdReadsSpec.post enc Try.prog Try.f7 false true false false W args v W' := by
  refine law_contract (tb := 4) (by kernel_rfl) (by kernel_rfl) (shs := [(false, [.slc [.int .u8]]), (false, [.int .i64])]) (by kernel_rfl) rfl rfl (by kernel_rfl) ?_ ?_ H enc W base args ds gs before hval hW hk
  · intro H ds h
    rcases ds with _ | ⟨d1, _ | ⟨d0, _ | ⟨d, ds⟩⟩⟩ <;> first
      | rfl
      | (exact absurd h (by simp [Try.f7]))
  · intro pss hf hw
    simp only [FitA] at hf
    obtain ⟨q0, _, rfl, f0, ⟨q1, _, rfl, f1, rfl⟩⟩ := hf
    have e0 : ∃ x0, q0 = [.slc 1 x0] ∧ ∀ x ∈ x0, FitL [.int .u8] x := by
      rw [FitL] at f0
      obtain ⟨p, r, rfl, h1, h2⟩ := f0
      rw [FitL] at h2; subst h2
      rw [FitP] at h1
      obtain ⟨x0, rfl, h3⟩ := h1
      exact ⟨x0, rfl, h3⟩
    have e1 : ∃ n, q1 = [.sc (.int .i64 n)] ∧ r64 n := by
      simp only [FitL, FitP] at f1
      obtain ⟨_, _, rfl, ⟨n, rfl, hn⟩, rfl⟩ := f1
      exact ⟨n, rfl, wf_i64 hn⟩
    obtain ⟨x0, rfl, w0⟩ := e0
    obtain ⟨x1, rfl, w1⟩ := e1
    simp only [wtR, wtL, wtP] at hw
    obtain ⟨bs, hb, hl⟩ := fit_isB w0 (by omega)
    exact v_reads5 x0 x1 ⟨bs, hb, by omega⟩ w1
set_option maxRecDepth 100000 in
theorem lifted (os : Os) (started : os.Started) (H : Type) (enc : TypeId × Value → H) (F : Stop.Interp) :
    ReturnsInHanded {} Try.checked os 7 .any ((Rows.OpenSpec.upto Rows.cmdReadsSpec).pre6 enc Try.prog Try.f7 Rows.cmdReadsUptoRow.domain false) (((Rows.OpenSpec.upto Rows.cmdReadsSpec).at F).post enc Try.prog Try.f7 false true false false) := by
  refine returnsInHanded_of_cond (C := Try.checked) (s := Rows.OpenSpec.upto Rows.cmdReadsSpec) (k := Rows.uptoSmall) rfl own started (by kernel_rfl) Try.func7
    (OpenSpec.witness (enc := enc) (C := Try.checked) (s := Rows.OpenSpec.upto Rows.cmdReadsSpec) (k := Rows.uptoSmall) rfl false ⟨#[], #[.slice none 0 0, .int .i64 0], []⟩ 8 (by kernel_rfl) (by kernel_rfl) (by kernel_rfl)
      (x := ([.nil, .lit (.int .i64 0)], [], [])) (by kernel_rfl) rfl (by kernel_rfl)) ?_
  intro W base args ds gs before hval hW _ hk _
  exact contract H enc W base args ds gs before hval hW hk
theorem over : Rows.cmdReadsUptoRow.holds Try.pinned (Rows.OpenSpec.upto Rows.cmdReadsSpec) :=
  OpenClaim.holds_of_cond 7 Try.f7 rfl rfl rfl rfl rfl rfl rfl ⟨rfl, rfl, rfl, rfl, rfl⟩ rfl rfl rfl rfl rfl (by kernel_rfl) Try.func7 (by kernel_rfl)
    (of_decide_eq_true (by kernel_rfl)) (by unfold Func.isWrapper; first | (rw [if_pos (by decide +kernel)]; kernel_rfl) | (rw [if_neg (by decide +kernel)]; exact ⟨rfl, rfl⟩))
    (fun os started H enc _ F => lifted os started H enc F)
/-- The statement of the law. -/
theorem proved : Rows.CmdReadsUptoSaid := over
end cmdReads
end Go.Proofs.Ytdcelfgdnepghaa
