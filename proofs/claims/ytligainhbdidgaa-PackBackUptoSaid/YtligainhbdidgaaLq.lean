/- What the laws' items are, read off their shapes. No condition. -/
import Derived.Test.YtligainhbdidgaaLp
import Derived.Test.YtligainhbdidgaaRd7
namespace Go.Proofs.Ytligainhbdidgaa
open Go.RowKit
set_option linter.all false
theorem wt_str {p : ByteArray} {x : List PD} {xs : List (List PD)} : ∀ {xs : List (List PD)}, x ∈ xs → wtL x ≤ wtR xs
  | y :: ys, h => by
      simp only [wtR]
      rcases List.mem_cons.1 h with rfl | h
      · omega
      · have := wt_str (p := p) (xs := xs) h
        omega
theorem fit_isIt {ls : List (List PD)} (h : ∀ x ∈ ls, FitL [.int .i64, .int .i64, .str, .bool] x) (hw : wtR ls ≤ 1048576) : isIt ls := by
  have hl := wt_rows ls (fun x hx e => by have := h x hx; subst e; simp [FitL] at this)
  refine ⟨by omega, fun x hx => ?_⟩
  have h0 := h x hx
  have hs := wt_str (p := .empty) (xs := []) hx
  simp only [FitL, FitP] at h0
  obtain ⟨_, _, rfl, ⟨k, rfl, hk⟩, _, _, rfl, ⟨n, rfl, hn⟩, _, _, rfl, ⟨s, rfl, _⟩, _, _, rfl, ⟨b, rfl⟩, rfl⟩ := h0
  simp only [wtL, wtP] at hs
  exact ⟨k, n, s, b, rfl, wf_i64 hk, wf_i64 hn, by omega⟩
end Go.Proofs.Ytligainhbdidgaa
