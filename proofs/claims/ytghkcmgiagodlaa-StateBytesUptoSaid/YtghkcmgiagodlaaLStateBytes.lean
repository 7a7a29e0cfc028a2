/- The law holds of every input of bulk at most the bound. -/
import Derived.Test.YtghkcmgiagodlaaGF
import Derived.Test.YtghkcmgiagodlaaGB
namespace Go.Proofs.Ytghkcmgiagodlaa
set_option linter.all false
theorem fit_u8 {ps : List PD} (h : FitL [.int .u8] ps) : ∃ n, ps = [.sc (.int .u8 n)] ∧ 0 ≤ n ∧ n ≤ 255 := by
  simp only [FitL, FitP] at h
  obtain ⟨_, _, rfl, ⟨n, rfl, hn⟩, rfl⟩ := h
  exact ⟨n, rfl, wf_u8 hn⟩
theorem v_sbytesD (ys xs : List (List PD)) (at_ to_ how_ : Int) (hp1 : isB8 ys) (hp0 : isC xs) (hat : r64 at_) (hto : 0 ≤ to_ ∧ to_ ≤ 255) (hho : r64 how_) : FnV Try.prog 7 [.d (.slc 1 ys), .d (.slc 7 xs), .d (.sc (.int .i64 at_)), .d (.sc (.int .u8 to_)), .d (.sc (.int .i64 how_))] (boolD true) :=
  v_sbytes ys xs at_ to_ how_ hp1 hp0 hat ⟨hto.1, by have := hto.2; omega⟩ hho

namespace stateBytes
open Go.ChangeShapes Go.WideShapes Go.ChangeAt Go.RowKit
theorem own : ownKnob Try.prog.godebug = none := by kernel_rfl
set_option maxRecDepth 100000 in
theorem contract (H : Type) (enc : TypeId × Value → H) (W : World) (base : Nat) (args : Array Value) (ds gs : List (DataW H)) (before : List MemPlace)
    (hval : ∀ (j : Nat) t v, Try.f7.params[j]? = some t → args[j]? = some v → Value.okWide Try.prog W .any base t v)
    (hW : DataW.Whole enc Try.prog Try.f7.params.toList Rows.stateBytesSpec.vars false W args.toList ds gs before) (hk : Rows.uptoSmall H (ds ++ gs) = true) :
    Calls Try.prog 7 args W fun e W' => ∃ v, e = .returned v ∧ Rows.stateBytesSpec.post enc Try.prog Try.f7 false true false false W args v W' := by
  refine law_contract (tb := 4) (by kernel_rfl) (by kernel_rfl) (shs := [(false, [.slc [.int .u8]]), (false, [.slc [.int .i64, .int .i64, .int .i64, .str, .str, .str, .str]]), (false, [.int .i64]), (false, [.int .u8]), (false, [.int .i64])]) (by kernel_rfl) rfl rfl (by kernel_rfl) ?_ ?_ H enc W base args ds gs before hval hW hk
  · intro H ds h
    rcases ds with _ | ⟨d4, _ | ⟨d3, _ | ⟨d2, _ | ⟨d1, _ | ⟨d0, _ | ⟨d, ds⟩⟩⟩⟩⟩⟩ <;> first
      | rfl
      | (exact absurd h (by simp [Try.f7]))
  · intro pss hf hw
    simp only [FitA] at hf
    obtain ⟨q0, _, rfl, f0, ⟨q1, _, rfl, f1, ⟨q2, _, rfl, f2, ⟨q3, _, rfl, f3, ⟨q4, _, rfl, f4, rfl⟩⟩⟩⟩⟩ := hf
    simp only [wtR] at hw
    obtain ⟨x0, e0, w0⟩ := fit_b8 f0 (by omega)
    obtain ⟨x1, e1, w1⟩ := fit_cmdR f1 (by omega)
    subst e0
    subst e1
    obtain ⟨x2, rfl, w2⟩ := fit_int f2
    obtain ⟨x3, rfl, w3⟩ := fit_u8 f3
    obtain ⟨x4, rfl, w4⟩ := fit_int f4
    show FnV Try.prog 7 [.d (.slc 1 x0), .d (.slc 7 x1), .d (.sc (.int .i64 x2)), .d (.sc (.int .u8 x3)), .d (.sc (.int .i64 x4))] _
    exact v_sbytesD x0 x1 x2 x3 x4 w0 w1 w2 w3 w4
set_option maxRecDepth 100000 in
theorem lifted (os : Os) (started : os.Started) (H : Type) (enc : TypeId × Value → H) (F : Stop.Interp) :
    ReturnsInHanded {} Try.checked os 7 .any ((Rows.OpenSpec.upto Rows.stateBytesSpec).pre6 enc Try.prog Try.f7 Rows.stateBytesUptoRow.domain false) (((Rows.OpenSpec.upto Rows.stateBytesSpec).at F).post enc Try.prog Try.f7 false true false false) := by
  refine returnsInHanded_of_cond (C := Try.checked) (s := Rows.OpenSpec.upto Rows.stateBytesSpec) (k := Rows.uptoSmall) rfl own started (by kernel_rfl) Try.func7
    (OpenSpec.witness (enc := enc) (C := Try.checked) (s := Rows.OpenSpec.upto Rows.stateBytesSpec) (k := Rows.uptoSmall) rfl false ⟨#[], #[.slice none 0 0, .slice none 0 0, .int .i64 0, .int .u8 0, .int .i64 0], []⟩ 8 (by kernel_rfl) (by kernel_rfl) (by kernel_rfl)
      (x := ([.nil, .nil, .lit (.int .i64 0), .lit (.int .u8 0), .lit (.int .i64 0)], [], [])) (by kernel_rfl) rfl (by kernel_rfl)) ?_
  intro W base args ds gs before hval hW _ hk _
  exact contract H enc W base args ds gs before hval hW hk
theorem over : Rows.stateBytesUptoRow.holds Try.pinned (Rows.OpenSpec.upto Rows.stateBytesSpec) :=
  OpenClaim.holds_of_cond 7 Try.f7 rfl rfl rfl rfl rfl rfl rfl ⟨rfl, rfl, rfl, rfl, rfl⟩ rfl rfl rfl rfl rfl (by kernel_rfl) Try.func7 (by kernel_rfl)
    (of_decide_eq_true (by kernel_rfl)) (by unfold Func.isWrapper; first | (rw [if_pos (by decide +kernel)]; kernel_rfl) | (rw [if_neg (by decide +kernel)]; exact ⟨rfl, rfl⟩))
    (fun os started H enc _ F => lifted os started H enc F)
/-- The statement of the law. -/
theorem proved : Rows.StateBytesUptoSaid := over
end stateBytes
end Go.Proofs.Ytghkcmgiagodlaa
