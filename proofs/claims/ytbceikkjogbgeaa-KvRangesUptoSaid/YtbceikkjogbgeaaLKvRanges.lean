/- The law holds of every input of bulk at most the bound. -/
import Derived.Test.YtbceikkjogbgeaaLk11
import Derived.Test.YtbceikkjogbgeaaKvD
namespace Go.Proofs.Ytbceikkjogbgeaa
set_option linter.all false

theorem fit_asks : ∀ (xs : List (List PD)), (∀ x ∈ xs, FitL [.int .i64, .str, .str, .str, .str] x) → ∃ qs, xs = asksX qs
  | [], _ => ⟨[], rfl⟩
  | x :: xs, h => by
      obtain ⟨ps, rfl⟩ := fit_asks xs (fun y hy => h y (by simp [hy]))
      have h0 := h x (by simp)
      simp only [FitL, FitP] at h0
      obtain ⟨_, _, rfl, ⟨n, rfl, _⟩, _, _, rfl, ⟨k, rfl, _⟩, _, _, rfl, ⟨v, rfl, _⟩, _, _, rfl, ⟨a, rfl, _⟩, _, _, rfl, ⟨b, rfl, _⟩, rfl⟩ := h0
      exact ⟨⟨n, k, v, ⟨a, b⟩⟩ :: ps, rfl⟩
theorem fit_askR {ps : List PD} (h : FitL [.slc [.int .i64, .str, .str, .str, .str]] ps) (hw : wtL ps ≤ 1048576) : ∃ xs, ps = [.slc 5 xs] ∧ isA xs := by
  simp only [FitL, FitP] at h
  obtain ⟨_, _, rfl, ⟨xs, rfl, hx⟩, rfl⟩ := h
  exact ⟨xs, rfl, fit_asks xs hx⟩
theorem fit_span {ps : List PD} (h : FitL [.str, .str] ps) (hw : wtL ps ≤ 1048576) : ∃ a b, ps = [.sc (.string a), .sc (.string b)] ∧ True := by
  simp only [FitL, FitP] at h
  obtain ⟨_, _, rfl, ⟨a, rfl, _⟩, _, _, rfl, ⟨b, rfl, _⟩, rfl⟩ := h
  exact ⟨a, b, rfl, trivial⟩

namespace kvRanges
open Go.ChangeShapes Go.WideShapes Go.ChangeAt Go.RowKit
theorem own : ownKnob Try.prog.godebug = none := by kernel_rfl
set_option maxRecDepth 100000 in
theorem contract (H : Type) (enc : TypeId × Value → H) (W : World) (base : Nat) (args : Array Value) (ds gs : List (DataW H)) (before : List MemPlace)
    (hval : ∀ (j : Nat) t v, Try.f5.params[j]? = some t → args[j]? = some v → Value.okWide Try.prog W .any base t v)
    (hW : DataW.Whole enc Try.prog Try.f5.params.toList Rows.kvRangesSpec.vars false W args.toList ds gs before) (hk : Rows.uptoSmall H (ds ++ gs) = true) :
    Calls Try.prog 5 args W fun e W' => ∃ v, e = .returned v ∧ Rows.kvRangesSpec.post enc Try.prog Try.f5 false true false false W args v W' := by
  refine law_contract (tb := 4) (by kernel_rfl) (by kernel_rfl) (shs := [(false, [.slc [.int .i64, .str, .str, .str, .str]]), (true, [.str, .str])]) (by kernel_rfl) rfl rfl (by kernel_rfl) ?_ ?_ H enc W base args ds gs before hval hW hk
  · intro H ds h
    rcases ds with _ | ⟨d1, _ | ⟨d0, _ | ⟨d, ds⟩⟩⟩ <;> first
      | rfl
      | (exact absurd h (by simp [Try.f5]))
  · intro pss hf hw
    simp only [FitA] at hf
    obtain ⟨q0, _, rfl, f0, ⟨q1, _, rfl, f1, rfl⟩⟩ := hf
    simp only [wtR] at hw
    obtain ⟨x0, e0, w0⟩ := fit_askR f0 (by omega)
    obtain ⟨x1_0, x1_1, e1, w1⟩ := fit_span f1 (by omega)
    subst e0
    subst e1
    show FnV Try.prog 5 [.d (.slc 5 x0), .agg ([.sc (.string x1_0), .sc (.string x1_1)].map .d)] _
    exact v_ranges x0 ⟨x1_0, x1_1⟩ w0
set_option maxRecDepth 100000 in
theorem lifted (os : Os) (started : os.Started) (H : Type) (enc : TypeId × Value → H) (F : Stop.Interp) :
    ReturnsInHanded {} Try.checked os 5 .any ((Rows.OpenSpec.upto Rows.kvRangesSpec).pre6 enc Try.prog Try.f5 Rows.kvRangesUptoRow.domain false) (((Rows.OpenSpec.upto Rows.kvRangesSpec).at F).post enc Try.prog Try.f5 false true false false) := by
  refine returnsInHanded_of_cond (C := Try.checked) (s := Rows.OpenSpec.upto Rows.kvRangesSpec) (k := Rows.uptoSmall) rfl own started (by kernel_rfl) Try.func5
    (OpenSpec.witness (enc := enc) (C := Try.checked) (s := Rows.OpenSpec.upto Rows.kvRangesSpec) (k := Rows.uptoSmall) rfl false ⟨#[], #[.slice none 0 0, .agg #[.string .empty, .string .empty]], []⟩ 8 (by kernel_rfl) (by kernel_rfl) (by kernel_rfl)
      (x := ([.nil, .agg [.lit (.string []), .lit (.string [])]], [], [])) (by kernel_rfl) rfl (by kernel_rfl)) ?_
  intro W base args ds gs before hval hW _ hk _
  exact contract H enc W base args ds gs before hval hW hk
theorem over : Rows.kvRangesUptoRow.holds Try.pinned (Rows.OpenSpec.upto Rows.kvRangesSpec) :=
  OpenClaim.holds_of_cond 5 Try.f5 rfl rfl rfl rfl rfl rfl rfl ⟨rfl, rfl, rfl, rfl, rfl⟩ rfl rfl rfl rfl rfl (by kernel_rfl) Try.func5 (by kernel_rfl)
    (of_decide_eq_true (by kernel_rfl)) (by unfold Func.isWrapper; first | (rw [if_pos (by decide +kernel)]; kernel_rfl) | (rw [if_neg (by decide +kernel)]; exact ⟨rfl, rfl⟩))
    (fun os started H enc _ F => lifted os started H enc F)
/-- The statement of the law. -/
theorem proved : Rows.KvRangesUptoSaid := over
end kvRanges
end Go.Proofs.Ytbceikkjogbgeaa
