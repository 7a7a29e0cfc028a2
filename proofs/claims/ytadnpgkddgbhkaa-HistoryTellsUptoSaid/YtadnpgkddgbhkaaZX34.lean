/- What the laws' owners, replies and pairs are, read off their shapes. No condition. -/
import Derived.Test.YtadnpgkddgbhkaaZX20
import Derived.Test.YtadnpgkddgbhkaaZX21
import Derived.Test.YtadnpgkddgbhkaaZX28
import Derived.Test.YtadnpgkddgbhkaaZX25
namespace Go.Proofs.Ytadnpgkddgbhkaa
open Go.RowKit
set_option linter.all false
theorem wf_r64 {n : Int} (h : (Lit.int .i64 n).wf = true) : r64 n := by
 simp only [Lit.wf, Bool.and_eq_true, decide_eq_true_eq] at h
 exact h
theorem fit_pairs : ∀ (xs : List (List PD)), (∀ x ∈ xs, FitL [.str, .str, .int .i64] x) → ∃ ps, xs = pairsX ps
 | [], _ => ⟨[], rfl⟩
 | x :: xs, h => by
     obtain ⟨ps, rfl⟩ := fit_pairs xs (fun y hy => h y (by simp [hy]))
     have h0 := h x (by simp)
     simp only [FitL, FitP] at h0
     obtain ⟨_, _, rfl, ⟨k, rfl, _⟩, _, _, rfl, ⟨v, rfl, _⟩, _, _, rfl, ⟨n, rfl, _⟩, rfl⟩ := h0
     exact ⟨⟨k, v, n⟩ :: ps, rfl⟩
theorem wt_pairs : ∀ ps : List Pair, ps.length ≤ wtR (pairsX ps)
 | [] => by simp
 | p :: ps => by
     have e : pairsX (p :: ps) = p.row :: pairsX ps := rfl
     have h := wt_pairs ps
     rw [e]
     simp only [wtR, Pair.row, wtL, wtP, List.length_cons]
     omega
theorem fit_isP {xs : List (List PD)} (h : ∀ x ∈ xs, FitL [.str, .str, .int .i64] x) (hw : wtR xs ≤ 1048576) : isP xs := by
 obtain ⟨ps, rfl⟩ := fit_pairs xs h
 have := wt_pairs ps
 exact ⟨ps, rfl, by omega⟩
theorem fit_bool {ps : List PD} (h : FitL [.bool] ps) : ∃ b, ps = [.sc (.bool b)] := by
 simp only [FitL, FitP] at h
 obtain ⟨_, _, rfl, ⟨n, rfl⟩, rfl⟩ := h
 exact ⟨n, rfl⟩
end Go.Proofs.Ytadnpgkddgbhkaa
namespace Go.Proofs.Ytadnpgkddgbhkaa
open Go.RowKit
set_option linter.all false
set_option maxHeartbeats 4000000
theorem fit_mops : ∀ (xs : List (List PD)), (∀ x ∈ xs, FitL [.int .i64, .int .i64, .int .i64, .int .i64, .int .i64, .str, .str, .str, .str, .bool, .bool] x) → ∃ l : List MOp, xs = mopsX l ∧ (∀ x ∈ l, r64 x.cl) ∧ 2 * l.length ≤ wtR xs
 | [], _ => ⟨[], rfl, fun x hx => (by cases hx), by simp⟩
 | x :: xs, h => by
     obtain ⟨l, rfl, h1, h2⟩ := fit_mops xs (fun y hy => h y (by simp [hy]))
     have h0 := h x (by simp)
     simp only [FitL, FitP] at h0
     obtain ⟨_, _, rfl, ⟨a, rfl, ha⟩, _, _, rfl, ⟨b, rfl, _⟩, _, _, rfl, ⟨c, rfl, _⟩, _, _, rfl, ⟨d, rfl, _⟩, _, _, rfl, ⟨e, rfl, _⟩, _, _, rfl, ⟨f, rfl, _⟩, _, _, rfl, ⟨g, rfl, _⟩, _, _, rfl, ⟨i, rfl, _⟩, _, _, rfl, ⟨j, rfl, _⟩, _, _, rfl, ⟨k, rfl⟩, _, _, rfl, ⟨m, rfl⟩, rfl⟩ := h0
     refine ⟨⟨a, b, ⟨c, d, e, f, g, i, j⟩, k, m⟩ :: l, rfl, ?_, ?_⟩
     ·intro y hy
      rcases List.mem_cons.1 hy with rfl | hy
      ·exact wf_r64 ha
      ·exact h1 y hy
     ·simp only [wtR, wtL, wtP, List.length_cons]
      omega
theorem fit_mopR {ps : List PD} (h : FitL [.slc [.int .i64, .int .i64, .int .i64, .int .i64, .int .i64, .str, .str, .str, .str, .bool, .bool]] ps) (hw : wtL ps ≤ 1048576) : ∃ xs, ps = [.slc 11 xs] ∧ isMops xs := by
 simp only [FitL, FitP] at h
 obtain ⟨_, _, rfl, ⟨xs, rfl, hx⟩, rfl⟩ := h
 simp only [wtL, wtP] at hw
 obtain ⟨l, e, h1, h2⟩ := fit_mops xs hx
 exact ⟨xs, rfl, l, e, by omega, h1⟩
end Go.Proofs.Ytadnpgkddgbhkaa
namespace Go.Proofs.Ytadnpgkddgbhkaa
open Go.RowKit
set_option linter.all false
set_option maxHeartbeats 4000000
theorem fit_evs : ∀ (xs : List (List PD)), (∀ x ∈ xs, FitL [.int .i64, .int .i64, .int .i64, .int .i64, .int .i64, .str, .str, .str, .str, .int .i64, .bool, .str, .int .i64, .slc [.str, .str, .int .i64]] x) → wtR xs ≤ 1048576 → ∃ l : List Ev, xs = evsX l ∧ (∀ e ∈ l, r64 e.a ∧ r64 e.b ∧ r64 e.c.client ∧ isP e.r.pairs) ∧ l.length ≤ wtR xs
 | [], _, _ => ⟨[], rfl, fun x hx => (by cases hx), by simp⟩
 | x :: xs, h, hw => by
     simp only [wtR] at hw
     obtain ⟨l, rfl, h1, h2⟩ := fit_evs xs (fun y hy => h y (by simp [hy])) (by omega)
     have h0 := h x (by simp)
     simp only [FitL, FitP] at h0
     obtain ⟨_, _, rfl, ⟨a, rfl, ha⟩, _, _, rfl, ⟨b, rfl, hb⟩, _, _, rfl, ⟨c, rfl, _⟩, _, _, rfl, ⟨d, rfl, hd⟩, _, _, rfl, ⟨e, rfl, _⟩, _, _, rfl, ⟨f, rfl, _⟩, _, _, rfl, ⟨g, rfl, _⟩, _, _, rfl, ⟨i, rfl, _⟩, _, _, rfl, ⟨j, rfl, _⟩, _, _, rfl, ⟨k, rfl, _⟩, _, _, rfl, ⟨m, rfl⟩, _, _, rfl, ⟨n, rfl, _⟩, _, _, rfl, ⟨o, rfl, _⟩, _, _, rfl, ⟨p, rfl, hp⟩, rfl⟩ := h0
     simp only [wtL, wtP] at hw
     have hpp := fit_isP hp (by omega)
     refine ⟨⟨a, b, ⟨c, d, e, f, g, i, j⟩, ⟨k, m, n, o, p⟩⟩ :: l, rfl, ?_, ?_⟩
     ·intro y hy
      rcases List.mem_cons.1 hy with rfl | hy
      ·exact ⟨wf_r64 ha, wf_r64 hb, wf_r64 hd, hpp⟩
      ·exact h1 y hy
     ·simp only [wtR, wtL, wtP, List.length_cons]
      omega
theorem fit_evR {ps : List PD} (h : FitL [.slc [.int .i64, .int .i64, .int .i64, .int .i64, .int .i64, .str, .str, .str, .str, .int .i64, .bool, .str, .int .i64, .slc [.str, .str, .int .i64]]] ps) (hw : wtL ps ≤ 1048576) : ∃ xs, ps = [.slc 14 xs] ∧ isEv xs := by
 simp only [FitL, FitP] at h
 obtain ⟨_, _, rfl, ⟨xs, rfl, hx⟩, rfl⟩ := h
 simp only [wtL, wtP] at hw
 obtain ⟨l, e, h1, h2⟩ := fit_evs xs hx (by omega)
 exact ⟨xs, rfl, l, e, by omega, h1⟩
end Go.Proofs.Ytadnpgkddgbhkaa
