/- A command applied again; what a step changes. No condition. -/
import Derived.Test.YtijknhdaipnjaaaSp1
namespace Go.Proofs.Ytijknhdaipnjaaa
open Go.RowKit
set_option linter.all false
theorem ownAt_set_same {os : List Owner} (hos : os.length = 8) {c : Int} (h1 : 1 ≤ c) (h2 : c ≤ 8) (o : Owner) : ownAt (os.set (c - 1).toNat o) c = o := by
  have h : c.toNat - 1 < os.length := by omega
  unfold ownAt
  simp [List.getD_eq_getElem?_getD, List.getElem?_set, h]
theorem ownAt_set_ne {os : List Owner} {a c : Int} (h1 : 1 ≤ a) (h2 : 1 ≤ c) (hne : a ≠ c) (o : Owner) : ownAt (os.set (c - 1).toNat o) a = ownAt os a := by
  have h : ¬ c.toNat - 1 = a.toNat - 1 := by omega
  unfold ownAt
  simp [List.getD_eq_getElem?_getD, List.getElem?_set, h]
/-- What a command comes to: the state behind it, and its reply. -/
theorem once_step {k : Int} {ps : List Pair} {os : List Owner} (h : okSt k ps os) (hk : 0 ≤ k) (hk2 : k ≤ 4611686018427387900) (c : Cmd) : ∃ qs rs r, applyS (cellsS ps os) c = (cellsS qs rs, r) ∧ okSt (k + 1) qs rs ∧ isP r.pairs ∧
    applyS (cellsS qs rs) c = (cellsS qs rs, r) ∧ (∀ a, 1 ≤ a → (ownAt os a).seq ≤ (ownAt rs a).seq) ∧
    (qs = ps ∨ (writesC c = true ∧ 1 ≤ c.client ∧ (ownAt os c.client).seq < c.seq ∧ c.seq ≤ (ownAt rs c.client).seq)) := by
  have hm := h.mono (show k ≤ k + 1 by omega)
  have hrep := h.is.rep c
  rcases apply_cases h hk (by omega) c with ⟨_, e⟩ | ⟨_, _, e⟩ | ⟨_, _, _, e⟩ | ⟨_, _, _, e⟩ | ⟨hz, hr, hlt, qs, r, hd, hq, hR, hw, e⟩
  · exact ⟨ps, os, _, e, hm, by rw [e] at hrep; exact hrep, e, fun _ _ => Int.le_refl _, .inl rfl⟩
  · exact ⟨ps, os, _, e, hm, by rw [e] at hrep; exact hrep, e, fun _ _ => Int.le_refl _, .inl rfl⟩
  · exact ⟨ps, os, _, e, hm, by rw [e] at hrep; exact hrep, e, fun _ _ => Int.le_refl _, .inl rfl⟩
  · exact ⟨ps, os, _, e, hm, by rw [e] at hrep; exact hrep, e, fun _ _ => Int.le_refl _, .inl rfl⟩
  · obtain ⟨_, f2, f3, _⟩ := right_facts hr hz
    have hok : okSt (k + 1) qs (os.set (c.client - 1).toNat ⟨c.seq, r⟩) := hm.set hq ⟨by show 0 ≤ c.seq; omega, f3.2, hR, fun e => absurd e (by show ¬ c.seq = 0; omega)⟩ _
    have hs := ownAt_set_same h.2.1 f2.1 f2.2 ⟨c.seq, r⟩
    refine ⟨qs, _, r, e, hok, hR.isP, ?_, fun a ha => ?_, ?_⟩
    · rcases apply_cases hok (by omega) (by omega) c with ⟨e1, _⟩ | ⟨_, e1, _⟩ | ⟨_, _, _, e2⟩ | ⟨_, _, e1, _⟩ | ⟨_, _, e1, _⟩
      · exact absurd e1 hz
      · rw [hr] at e1; cases e1
      · rw [hs] at e2; exact e2
      · rw [hs] at e1; exact absurd e1 (by show ¬ c.seq < c.seq; omega)
      · rw [hs] at e1; exact absurd e1 (by show ¬ c.seq < c.seq; omega)
    · by_cases ha2 : a = c.client
      · subst ha2
        rw [hs]
        exact Int.le_of_lt hlt
      · rw [ownAt_set_ne ha f2.1 ha2]
        exact Int.le_refl _
    · cases hwc : writesC c with
      | false => exact .inl (hw hwc)
      | true => exact .inr ⟨rfl, f2.1, hlt, by rw [hs]; exact Int.le_refl _⟩
theorem sameS_refl (xs : List (List PD)) (cs : List DV) : sameS xs cs xs cs = true := by simp [sameS]
theorem sameSt_refl (s : List DV) : sameSt s s = true := sameS_refl _ _

end Go.Proofs.Ytijknhdaipnjaaa
