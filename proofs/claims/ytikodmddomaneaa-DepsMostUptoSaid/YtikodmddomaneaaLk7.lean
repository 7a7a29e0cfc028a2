/- What the laws' attributes, rows of slots and instances are, read off their shapes. No condition. -/
import Derived.Test.YtikodmddomaneaaAm29
import Derived.Test.YtikodmddomaneaaDpY
namespace Go.Proofs.Ytikodmddomaneaa
open Go.RowKit
set_option linter.all false
theorem wf_r64 {n : Int} (h : (Lit.int .i64 n).wf = true) : r64 n := by
  simp only [Lit.wf, Bool.and_eq_true, decide_eq_true_eq] at h
  exact h
theorem fit_deps {ps : List PD} (h : FitL [.int .i64, .int .i64, .int .i64, .int .i64, .int .i64, .int .i64, .int .i64] ps) (hw : wtL ps ≤ 1048576) : ∃ a0 a1 a2 a3 a4 a5 a6 : Int, ps = [.sc (.int .i64 a0), .sc (.int .i64 a1), .sc (.int .i64 a2), .sc (.int .i64 a3), .sc (.int .i64 a4), .sc (.int .i64 a5), .sc (.int .i64 a6)] ∧ rDeps ⟨a0, a1, a2, a3, a4, a5, a6⟩ := by
  simp only [FitL, FitP] at h
  obtain ⟨_, _, rfl, ⟨a0, rfl, h0⟩, _, _, rfl, ⟨a1, rfl, h1⟩, _, _, rfl, ⟨a2, rfl, h2⟩, _, _, rfl, ⟨a3, rfl, h3⟩, _, _, rfl, ⟨a4, rfl, h4⟩, _, _, rfl, ⟨a5, rfl, h5⟩, _, _, rfl, ⟨a6, rfl, h6⟩, rfl⟩ := h
  exact ⟨a0, a1, a2, a3, a4, a5, a6, rfl, wf_r64 h0, wf_r64 h1, wf_r64 h2, wf_r64 h3, wf_r64 h4, wf_r64 h5, wf_r64 h6⟩
theorem fit_inst {ps : List PD} (h : FitL [.int .i64, .int .i64] ps) (hw : wtL ps ≤ 1048576) : ∃ a0 a1 : Int, ps = [.sc (.int .i64 a0), .sc (.int .i64 a1)] ∧ r64 a0 ∧ r64 a1 := by
  simp only [FitL, FitP] at h
  obtain ⟨_, _, rfl, ⟨a0, rfl, h0⟩, _, _, rfl, ⟨a1, rfl, h1⟩, rfl⟩ := h
  exact ⟨a0, a1, rfl, wf_r64 h0, wf_r64 h1⟩
theorem fit_attr {ps : List PD} (h : FitL [.int .i64, .int .i64, .int .i64, .int .i64, .int .i64, .int .i64, .int .i64, .int .i64] ps) (hw : wtL ps ≤ 1048576) : ∃ a0 a1 a2 a3 a4 a5 a6 a7 : Int, ps = [.sc (.int .i64 a0), .sc (.int .i64 a1), .sc (.int .i64 a2), .sc (.int .i64 a3), .sc (.int .i64 a4), .sc (.int .i64 a5), .sc (.int .i64 a6), .sc (.int .i64 a7)] ∧ rAttr ⟨a0, a1, a2, a3, a4, a5, a6, a7⟩ := by
  simp only [FitL, FitP] at h
  obtain ⟨_, _, rfl, ⟨a0, rfl, h0⟩, _, _, rfl, ⟨a1, rfl, h1⟩, _, _, rfl, ⟨a2, rfl, h2⟩, _, _, rfl, ⟨a3, rfl, h3⟩, _, _, rfl, ⟨a4, rfl, h4⟩, _, _, rfl, ⟨a5, rfl, h5⟩, _, _, rfl, ⟨a6, rfl, h6⟩, _, _, rfl, ⟨a7, rfl, h7⟩, rfl⟩ := h
  exact ⟨a0, a1, a2, a3, a4, a5, a6, a7, rfl, wf_r64 h0, wf_r64 h1, wf_r64 h2, wf_r64 h3, wf_r64 h4, wf_r64 h5, wf_r64 h6, wf_r64 h7⟩
theorem fit_int {ps : List PD} (h : FitL [.int .i64] ps) : ∃ n, ps = [.sc (.int .i64 n)] ∧ r64 n := by
  simp only [FitL, FitP] at h
  obtain ⟨_, _, rfl, ⟨n, rfl, hn⟩, rfl⟩ := h
  exact ⟨n, rfl, wf_r64 hn⟩
theorem fit_attrs : ∀ (xs : List (List PD)), (∀ x ∈ xs, FitL [.int .i64, .int .i64, .int .i64, .int .i64, .int .i64, .int .i64, .int .i64, .int .i64] x) → ∃ l : List Attr, xs = attrsX l ∧ ∀ a ∈ l, rAttr a
  | [], _ => ⟨[], rfl, by simp⟩
  | x :: xs, h => by
      obtain ⟨l, rfl, hl⟩ := fit_attrs xs (fun y hy => h y (by simp [hy]))
      have h0 := h x (by simp)
      simp only [FitL, FitP] at h0
      obtain ⟨_, _, rfl, ⟨a0, rfl, h0⟩, _, _, rfl, ⟨a1, rfl, h1⟩, _, _, rfl, ⟨a2, rfl, h2⟩, _, _, rfl, ⟨a3, rfl, h3⟩, _, _, rfl, ⟨a4, rfl, h4⟩, _, _, rfl, ⟨a5, rfl, h5⟩, _, _, rfl, ⟨a6, rfl, h6⟩, _, _, rfl, ⟨a7, rfl, h7⟩, rfl⟩ := h0
      refine ⟨⟨a0, a1, a2, a3, a4, a5, a6, a7⟩ :: l, rfl, ?_⟩
      intro a ha
      rcases List.mem_cons.1 ha with rfl | ha
      · exact ⟨wf_r64 h0, wf_r64 h1, wf_r64 h2, wf_r64 h3, wf_r64 h4, wf_r64 h5, wf_r64 h6, wf_r64 h7⟩
      · exact hl a ha
theorem wt_attrs : ∀ l : List Attr, l.length ≤ wtR (attrsX l)
  | [] => by simp
  | a :: l => by
      have e : attrsX (a :: l) = a.row :: attrsX l := rfl
      have h := wt_attrs l
      rw [e]
      simp only [wtR, Attr.row, wtL, wtP, List.length_cons]
      omega
theorem fit_attrR {ps : List PD} (h : FitL [.slc [.int .i64, .int .i64, .int .i64, .int .i64, .int .i64, .int .i64, .int .i64, .int .i64]] ps) (hw : wtL ps ≤ 1048576) : ∃ xs, ps = [.slc 8 xs] ∧ isAt xs := by
  simp only [FitL, FitP] at h
  obtain ⟨_, _, rfl, ⟨xs, rfl, hx⟩, rfl⟩ := h
  simp only [wtL, wtP] at hw
  obtain ⟨l, rfl, hl⟩ := fit_attrs xs hx
  have := wt_attrs l
  exact ⟨_, rfl, l, rfl, by omega, hl⟩
end Go.Proofs.Ytikodmddomaneaa
