/- What the arguments of HistoryRow are, read off their shapes. No condition. -/
import Derived.Test.YtadnpgkddgbhkaaZX32
import Derived.Test.YtadnpgkddgbhkaaZX31
namespace Go.Proofs.Ytadnpgkddgbhkaa
open Go.RowKit
set_option linter.all false
set_option maxHeartbeats 4000000
theorem fit_cmds2 : ∀ (xs : List (List PD)), (∀ x ∈ xs, FitL [.int .i64, .int .i64, .int .i64, .str, .str, .str, .str] x) → ∃ l : List Cmd, xs = cmdsX l ∧ (∀ c ∈ l, r64 c.client) ∧ 2 * l.length ≤ wtR xs
 | [], _ => ⟨[], rfl, fun x hx => (by cases hx), by simp⟩
 | x :: xs, h => by
     obtain ⟨l, rfl, h1, h2⟩ := fit_cmds2 xs (fun y hy => h y (by simp [hy]))
     have h0 := h x (by simp)
     simp only [FitL, FitP] at h0
     obtain ⟨_, _, rfl, ⟨a, rfl, _⟩, _, _, rfl, ⟨b, rfl, hb⟩, _, _, rfl, ⟨c, rfl, _⟩, _, _, rfl, ⟨d, rfl, _⟩, _, _, rfl, ⟨e, rfl, _⟩, _, _, rfl, ⟨f, rfl, _⟩, _, _, rfl, ⟨g, rfl, _⟩, rfl⟩ := h0
     refine ⟨⟨a, b, c, d, e, f, g⟩ :: l, rfl, ?_, ?_⟩
     · intro y hy
       rcases List.mem_cons.1 hy with rfl | hy
       · exact wf_r64 hb
       · exact h1 y hy
     · simp only [wtR, wtL, wtP, List.length_cons]
       omega
theorem fit_cmdR2 {ps : List PD} (h : FitL [.slc [.int .i64, .int .i64, .int .i64, .str, .str, .str, .str]] ps) (hw : wtL ps ≤ 1048576) : ∃ xs, ps = [.slc 7 xs] ∧ isC2 xs := by
 simp only [FitL, FitP] at h
 obtain ⟨_, _, rfl, ⟨xs, rfl, hx⟩, rfl⟩ := h
 simp only [wtL, wtP] at hw
 obtain ⟨l, e, h1, h2⟩ := fit_cmds2 xs hx
 exact ⟨xs, rfl, l, e, by omega, h1⟩
end Go.Proofs.Ytadnpgkddgbhkaa
