/- What the laws' owners, replies and pairs are, read off their shapes. No condition. -/
import Derived.Test.YtjlbdfehkbcmfaaAm29
import Derived.Test.YtjlbdfehkbcmfaaKqZ
namespace Go.Proofs.Ytjlbdfehkbcmfaa
open Go.RowKit
set_option linter.all false
theorem wf_r64 {n : Int} (h : (Lit.int .i64 n).wf = true) : r64 n := by
  simp only [Lit.wf, Bool.and_eq_true, decide_eq_true_eq] at h
  exact h
theorem FitL.split : ∀ {a b : List Sh} {ps : List PD}, FitL (a ++ b) ps → ∃ p q, ps = p ++ q ∧ FitL a p ∧ FitL b q
  | [], _, ps, h => ⟨[], ps, rfl, by simp only [FitL], h⟩
  | s :: a, b, ps, h => by
      simp only [List.cons_append, FitL] at h
      obtain ⟨p, qs, rfl, h1, h2⟩ := h
      obtain ⟨p', q', rfl, h3, h4⟩ := FitL.split h2
      exact ⟨p :: p', q', rfl, by simp only [FitL]; exact ⟨p, p', rfl, h1, h3⟩, h4⟩
theorem fit_pairs : ∀ (xs : List (List PD)), (∀ x ∈ xs, FitL [.str, .str, .int .i64] x) → ∃ ps, xs = pairsX ps
  | [], _ => ⟨[], rfl⟩
  | x :: xs, h => by
      obtain ⟨ps, rfl⟩ := fit_pairs xs (fun y hy => h y (by simp [hy]))
      have h0 := h x (by simp)
      simp only [FitL, FitP] at h0
      obtain ⟨_, _, rfl, ⟨k, rfl, _⟩, _, _, rfl, ⟨v, rfl, _⟩, _, _, rfl, ⟨n, rfl, _⟩, rfl⟩ := h0
      exact ⟨⟨k, v, n⟩ :: ps, rfl⟩
theorem wt_pairs : ∀ ps : List Pair, ps.length ≤ wtR (pairsX ps)
  | [] => by simp
  | p :: ps => by
      have e : pairsX (p :: ps) = p.row :: pairsX ps := rfl
      have h := wt_pairs ps
      rw [e]
      simp only [wtR, Pair.row, wtL, wtP, List.length_cons]
      omega
theorem fit_isP {xs : List (List PD)} (h : ∀ x ∈ xs, FitL [.str, .str, .int .i64] x) (hw : wtR xs ≤ 1048576) : isP xs := by
  obtain ⟨ps, rfl⟩ := fit_pairs xs h
  have := wt_pairs ps
  exact ⟨ps, rfl, by omega⟩
abbrev shRep : List Sh := [.int .i64, .bool, .str, .int .i64, .slc [.str, .str, .int .i64]]
abbrev shOwn : List Sh := .int .i64 :: shRep
theorem fit_reply {ps : List PD} (h : FitL shRep ps) (hw : wtL ps ≤ 1048576) : ∃ r : Reply, DV.agg (ps.map .d) = r.D ∧ isP r.pairs := by
  simp only [FitL, FitP] at h
  obtain ⟨_, _, rfl, ⟨a, rfl, _⟩, _, _, rfl, ⟨b, rfl⟩, _, _, rfl, ⟨c, rfl, _⟩, _, _, rfl, ⟨d, rfl, _⟩, _, _, rfl, ⟨xs, rfl, hx⟩, rfl⟩ := h
  simp only [wtL, wtP] at hw
  have hp := fit_isP hx (by omega)
  exact ⟨⟨a, b, c, d, xs⟩, rfl, hp⟩
theorem fit_owner {ps : List PD} (h : FitL shOwn ps) (hw : wtL ps ≤ 1048576) : ∃ o : Owner, ps.map DV.d = o.cells ∧ isP o.reply.pairs := by
  simp only [FitL, FitP] at h
  obtain ⟨_, _, rfl, ⟨s, rfl, _⟩, _, _, rfl, ⟨a, rfl, _⟩, _, _, rfl, ⟨b, rfl⟩, _, _, rfl, ⟨c, rfl, _⟩, _, _, rfl, ⟨d, rfl, _⟩, _, _, rfl, ⟨xs, rfl, hx⟩, rfl⟩ := h
  simp only [wtL, wtP] at hw
  have hp := fit_isP hx (by omega)
  exact ⟨⟨s, ⟨a, b, c, d, xs⟩⟩, rfl, hp⟩
theorem fit_owners : ∀ (n : Nat) {ps : List PD}, FitL (List.replicate n shOwn).flatten ps → wtL ps ≤ 1048576 → ∃ os : List Owner, os.length = n ∧ ps.map DV.d = ownsD os ∧ ∀ o ∈ os, isP o.reply.pairs
  | 0, ps, h, _ => by
      simp only [List.replicate, List.flatten, FitL] at h
      subst h
      exact ⟨[], rfl, rfl, by simp⟩
  | n + 1, ps, h, hw => by
      rw [List.replicate_succ, List.flatten_cons] at h
      obtain ⟨p, q, rfl, h1, h2⟩ := FitL.split h
      rw [wtL_append] at hw
      obtain ⟨o, e1, k1⟩ := fit_owner h1 (by omega)
      obtain ⟨os, l2, e2, k2⟩ := fit_owners n h2 (by omega)
      refine ⟨o :: os, by simp [l2], ?_, ?_⟩
      · rw [List.map_append, e1, e2]; rfl
      · intro x hx
        rcases List.mem_cons.1 hx with rfl | hx
        · exact k1
        · exact k2 x hx
theorem fit_own {ps : List PD} (h : FitL (List.replicate 8 shOwn).flatten ps) (hw : wtL ps ≤ 1048576) : isOwn (ps.map DV.d) := by
  obtain ⟨os, h1, h2, h3⟩ := fit_owners 8 h hw
  exact ⟨os, h1, h2, h3⟩
theorem fit_int {ps : List PD} (h : FitL [.int .i64] ps) : ∃ n, ps = [.sc (.int .i64 n)] ∧ r64 n := by
  simp only [FitL, FitP] at h
  obtain ⟨_, _, rfl, ⟨n, rfl, hn⟩, rfl⟩ := h
  exact ⟨n, rfl, wf_r64 hn⟩
theorem fit_bool {ps : List PD} (h : FitL [.bool] ps) : ∃ b, ps = [.sc (.bool b)] := by
  simp only [FitL, FitP] at h
  obtain ⟨_, _, rfl, ⟨n, rfl⟩, rfl⟩ := h
  exact ⟨n, rfl⟩
theorem fit_str {ps : List PD} (h : FitL [.str] ps) (hw : wtL ps ≤ 1048576) : ∃ s, ps = [.sc (.string s)] ∧ s.size ≤ 1048576 := by
  simp only [FitL, FitP] at h
  obtain ⟨_, _, rfl, ⟨n, rfl, _⟩, rfl⟩ := h
  simp only [wtL, wtP] at hw
  exact ⟨n, rfl, by omega⟩
theorem fit_slc {ps : List PD} (h : FitL [.slc [.str, .str, .int .i64]] ps) (hw : wtL ps ≤ 1048576) : ∃ xs, ps = [.slc 3 xs] ∧ isP xs := by
  simp only [FitL, FitP] at h
  obtain ⟨_, _, rfl, ⟨xs, rfl, hx⟩, rfl⟩ := h
  simp only [wtL, wtP] at hw
  exact ⟨xs, rfl, fit_isP hx (by omega)⟩
end Go.Proofs.Ytjlbdfehkbcmfaa
