/- What the arguments of chapter 26's laws are, read off their shapes. No condition. -/
import Derived.Test.YtadnpgkddgbhkaaZX32
import Derived.Test.YtadnpgkddgbhkaaZX28
namespace Go.Proofs.Ytadnpgkddgbhkaa
open Go.RowKit
set_option linter.all false
set_option maxHeartbeats 4000000
theorem fit_mops : ∀ (xs : List (List PD)), (∀ x ∈ xs, FitL [.int .i64, .int .i64, .int .i64, .int .i64, .int .i64, .str, .str, .str, .str, .bool, .bool] x) → ∃ l : List MOp, xs = mopsX l ∧ (∀ x ∈ l, r64 x.cl) ∧ 2 * l.length ≤ wtR xs
 | [], _ => ⟨[], rfl, fun x hx => (by cases hx), by simp⟩
 | x :: xs, h => by
     obtain ⟨l, rfl, h1, h2⟩ := fit_mops xs (fun y hy => h y (by simp [hy]))
     have h0 := h x (by simp)
     simp only [FitL, FitP] at h0
     obtain ⟨_, _, rfl, ⟨a, rfl, ha⟩, _, _, rfl, ⟨b, rfl, _⟩, _, _, rfl, ⟨c, rfl, _⟩, _, _, rfl, ⟨d, rfl, _⟩, _, _, rfl, ⟨e, rfl, _⟩, _, _, rfl, ⟨f, rfl, _⟩, _, _, rfl, ⟨g, rfl, _⟩, _, _, rfl, ⟨i, rfl, _⟩, _, _, rfl, ⟨j, rfl, _⟩, _, _, rfl, ⟨k, rfl⟩, _, _, rfl, ⟨m, rfl⟩, rfl⟩ := h0
     refine ⟨⟨a, b, ⟨c, d, e, f, g, i, j⟩, k, m⟩ :: l, rfl, ?_, ?_⟩
     · intro y hy
       rcases List.mem_cons.1 hy with rfl | hy
       · exact wf_r64 ha
       · exact h1 y hy
     · simp only [wtR, wtL, wtP, List.length_cons]
       omega
theorem fit_mopR {ps : List PD} (h : FitL [.slc [.int .i64, .int .i64, .int .i64, .int .i64, .int .i64, .str, .str, .str, .str, .bool, .bool]] ps) (hw : wtL ps ≤ 1048576) : ∃ xs, ps = [.slc 11 xs] ∧ isMops xs := by
 simp only [FitL, FitP] at h
 obtain ⟨_, _, rfl, ⟨xs, rfl, hx⟩, rfl⟩ := h
 simp only [wtL, wtP] at hw
 obtain ⟨l, e, h1, h2⟩ := fit_mops xs hx
 exact ⟨xs, rfl, l, e, by omega, h1⟩
end Go.Proofs.Ytadnpgkddgbhkaa
