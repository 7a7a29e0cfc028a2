/- What a law's state is, read off its shape. No condition. -/
import Derived.Test.YtijknhdaipnjaaaLk13
import Derived.Test.YtijknhdaipnjaaaStK
namespace Go.Proofs.Ytijknhdaipnjaaa
open Go.RowKit
set_option linter.all false
theorem fit_rv64 {ps : List Pair} (h : ∀ x ∈ pairsX ps, FitL [.str, .str, .int .i64] x) : rv64 (pairsX ps) := by
  unfold rv64
  rw [pairsOf_X]
  intro p hp
  have h0 := h p.row (by simp only [pairsX, List.mem_map]; exact ⟨p, hp, rfl⟩)
  obtain ⟨k, v, n⟩ := p
  simp only [Pair.row, FitL, FitP] at h0
  obtain ⟨_, _, e1, _, _, _, e2, _, _, _, e3, ⟨m, e4, hm⟩, _⟩ := h0
  simp only [List.cons.injEq] at e1
  obtain ⟨_, rfl⟩ := e1
  simp only [List.cons.injEq] at e2
  obtain ⟨_, rfl⟩ := e2
  simp only [List.cons.injEq] at e3
  obtain ⟨rfl, _⟩ := e3
  cases e4
  exact wf_r64 hm
theorem fit_owner {ps : List PD} (h : FitL shOwn ps) (hw : wtL ps ≤ 1048576) : ∃ o : Owner, ps.map DV.d = o.cells ∧ isP o.reply.pairs ∧ r64 o.reply.version ∧ rv64 o.reply.pairs := by
  simp only [FitL, FitP] at h
  obtain ⟨_, _, rfl, ⟨s, rfl, _⟩, _, _, rfl, ⟨a, rfl, _⟩, _, _, rfl, ⟨b, rfl⟩, _, _, rfl, ⟨c, rfl, _⟩, _, _, rfl, ⟨d, rfl, hd⟩, _, _, rfl, ⟨xs, rfl, hx⟩, rfl⟩ := h
  simp only [wtL, wtP] at hw
  obtain ⟨qs, rfl⟩ := fit_pairs xs hx
  have hp := fit_isP hx (by omega)
  exact ⟨⟨s, ⟨a, b, c, d, pairsX qs⟩⟩, rfl, hp, wf_r64 hd, fit_rv64 hx⟩
theorem fit_owners : ∀ (n : Nat) {ps : List PD}, FitL (List.replicate n shOwn).flatten ps → wtL ps ≤ 1048576 → ∃ os : List Owner, os.length = n ∧ ps.map DV.d = ownsD os ∧ ∀ o ∈ os, isP o.reply.pairs ∧ r64 o.reply.version ∧ rv64 o.reply.pairs
  | 0, ps, h, _ => by
      simp only [List.replicate, List.flatten, FitL] at h
      subst h
      exact ⟨[], rfl, rfl, by simp⟩
  | n + 1, ps, h, hw => by
      rw [List.replicate_succ, List.flatten_cons] at h
      obtain ⟨p, q, rfl, h1, h2⟩ := FitL.split h
      rw [wtL_append] at hw
      obtain ⟨o, e1, k1⟩ := fit_owner h1 (by omega)
      obtain ⟨os, l2, e2, k2⟩ := fit_owners n h2 (by omega)
      refine ⟨o :: os, by simp [l2], ?_, ?_⟩
      · rw [List.map_append, e1, e2]; rfl
      · intro x hx
        rcases List.mem_cons.1 hx with rfl | hx
        · exact k1
        · exact k2 x hx
theorem fit_st {ps : List PD} (h : FitL (.slc [.str, .str, .int .i64] :: (List.replicate 8 shOwn).flatten) ps) (hw : wtL ps ≤ 1048576) : ∃ xs cs, ps.map DV.d = .d (.slc 3 xs) :: cs ∧ isP xs ∧ isOwn cs ∧ rv64 xs ∧ ∀ o ∈ ownersOf cs, r64 o.reply.version ∧ rv64 o.reply.pairs := by
  obtain ⟨p, q, rfl, h1, h2⟩ := FitL.split (a := [.slc [.str, .str, .int .i64]]) h
  rw [wtL_append] at hw
  simp only [FitL, FitP] at h1
  obtain ⟨_, _, rfl, ⟨xs, rfl, hx⟩, rfl⟩ := h1
  simp only [wtL, wtP] at hw
  obtain ⟨qs, rfl⟩ := fit_pairs xs hx
  obtain ⟨os, l1, e1, k1⟩ := fit_owners 8 h2 (by omega)
  refine ⟨pairsX qs, q.map .d, rfl, fit_isP hx (by omega), ⟨os, l1, e1, fun o ho => (k1 o ho).1⟩, fit_rv64 hx, ?_⟩
  rw [ownersOf_D l1 e1]
  exact fun o ho => (k1 o ho).2
end Go.Proofs.Ytijknhdaipnjaaa
