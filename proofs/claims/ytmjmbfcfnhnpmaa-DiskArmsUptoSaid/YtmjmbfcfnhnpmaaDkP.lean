/- Disks stay right: plain laws. No condition. -/
import Derived.Test.YtmjmbfcfnhnpmaaDkR
namespace Go.Proofs.Ytmjmbfcfnhnpmaa
open Go.RowKit
set_option linter.all false
theorem totF_mem {L : List FileM} {f : FileM} (h : f ∈ L) : (f.data.length : Int) ≤ totF L := by
  induction L with
  | nil => cases h
  | cons g L ih =>
    have h0 := totF_nonneg L
    rcases List.mem_cons.1 h with rfl | h
    · simp only [totF]; omega
    · have := ih h
      simp only [totF]; omega
theorem totF_set {L : List FileM} {i : Nat} {f g : FileM} (h : L[i]? = some f) : totF (L.set i g) = totF L - f.data.length + g.data.length := by
  induction L generalizing i with
  | nil => simp at h
  | cons a L ih =>
    cases i with
    | zero => simp at h; subst h; simp only [List.set_cons_zero, totF]; omega
    | succ i =>
      simp at h
      have := ih h
      simp only [List.set_cons_succ, totF, this]; omega
theorem totF_ins (L : List FileM) (k : Nat) (g : FileM) : totF (L.take k ++ [g] ++ L.drop k) = totF L + g.data.length := by
  have e := totF_append (L.take k) (L.drop k)
  rw [List.take_append_drop] at e
  rw [totF_append, totF_append]
  simp only [totF]
  omega
theorem find_some {L : List FileM} {name : ByteArray} (h : (findF name L 0).2 = true) : ∃ f, L[(findF name L 0).1.toNat]? = some f ∧ f.name = name := by
  have := find_get h
  simpa using this
theorem addF_tot (L : List FileM) (name : ByteArray) (p : List (List PD)) : totF (addF L name p) = totF L + p.length := by
  unfold addF
  split
  · rename_i h
    obtain ⟨f, h1, _⟩ := find_some h
    rw [h1]
    simp only
    rw [totF_set h1, List.length_append]
    omega
  · rw [totF_ins]
theorem addF_len (L : List FileM) (name : ByteArray) (p : List (List PD)) : (addF L name p).length ≤ L.length + 1 := by
  unfold addF
  split
  · split
    · rw [List.length_set]; omega
    · omega
  · simp; omega
theorem isB.app {a b : List (List PD)} (ha : isB a) (hb : isB b) (h : a.length + b.length ≤ 4000000) : isB (a ++ b) := by
  obtain ⟨x, rfl, _⟩ := ha
  obtain ⟨y, rfl, _⟩ := hb
  rw [bytesP_length, bytesP_length] at h
  exact ⟨x ++ y, by rw [bytesP_append], by rw [List.length_append]; exact h⟩
theorem addF_ok {L : List FileM} {name : ByteArray} {p : List (List PD)} (h : ∀ f ∈ L, okFile f) (hp : isB p) (ht : totF L + p.length ≤ 1048576) : ∀ f ∈ addF L name p, okFile f := by
  have h0 := totF_nonneg L
  intro f hf
  unfold addF at hf
  split at hf
  · rename_i hs
    obtain ⟨g, h1, _⟩ := find_some hs
    rw [h1] at hf
    simp only at hf
    rcases List.mem_or_eq_of_mem_set hf with hf | rfl
    · exact h f hf
    · have hg := List.mem_of_getElem? h1
      have hm := totF_mem hg
      obtain ⟨k1, k2, k3⟩ := h g hg
      refine ⟨k1.app hp (by omega), k2, ?_⟩
      simp only [List.length_append]
      omega
  · rcases List.mem_append.1 hf with hf | hf
    · rcases List.mem_append.1 hf with hf | hf
      · exact h f (List.mem_of_mem_take hf)
      · simp at hf
        subst hf
        refine ⟨hp, ?_, ?_⟩
        · exact Int.le_refl _
        · show (0 : Int) ≤ (p.length : Int)
          omega
    · exact h f (List.mem_of_mem_drop hf)
theorem powL_ok {a : Bool} {l : Int} (h : 0 ≤ l ∧ l ≤ 9223372036854775807) : 0 ≤ powL a l ∧ powL a l ≤ 9223372036854775807 := by
  unfold powL
  cases a <;> by_cases hl : l = 0 <;> simp [hl] <;> omega
theorem okD.pow {k : Nat} {D : Dk} (h : okD k D) : okD k ⟨D.q, D.L, powO D.o D.a D.l, D.a, powL D.a D.l⟩ := ⟨h.q, h.tot, h.len, h.fs, powL_ok h.l⟩
theorem okD.app {k : Nat} {D : Dk} (h : okD k D) {name : ByteArray} {p : List (List PD)} (hp : isB p) : okD (k + 1) (D.app name p).2 := by
  unfold Dk.app
  split
  · exact h.mono (Nat.le_succ k)
  · split
    · exact h.mono (Nat.le_succ k)
    · split
      · exact h.mono (Nat.le_succ k)
      · rename_i hr
        split
        · have ht := h.tot
          have hq := h.q
          refine ⟨h.q, ?_, ?_, addF_ok h.fs hp (by omega), powL_ok h.l⟩
          · show totF (addF D.L name p) ≤ D.q
            rw [addF_tot]; omega
          · have := addF_len D.L name p
            have := h.len
            show (addF D.L name p).length ≤ k + 1
            omega
        · exact h.pow.mono (Nat.le_succ k)
theorem setKept_eq (L : List FileM) (i : Nat) : (∃ f, L[i]? = some f ∧ setKept L i = L.set i ⟨f.name, f.data, f.data.length⟩) ∨ setKept L i = L := by
  unfold setKept
  cases h : L[i]? with
  | none => exact .inr rfl
  | some f => exact .inl ⟨f, rfl, rfl⟩
theorem okD.sync {k : Nat} {D : Dk} (h : okD k D) (name : ByteArray) : okD k (D.sync name).2 := by
  unfold Dk.sync
  split
  · split
    · rcases setKept_eq D.L (D.at name) with ⟨f, h1, h2⟩ | h2
      · rw [h2]
        refine ⟨h.q, ?_, ?_, fun g hg => ?_, powL_ok h.l⟩
        · show totF (D.L.set _ _) ≤ D.q
          rw [totF_set h1]
          have := h.tot
          simp only
          omega
        · show (D.L.set _ _).length ≤ k
          rw [List.length_set]; exact h.len
        · rcases List.mem_or_eq_of_mem_set hg with hg | rfl
          · exact h.fs g hg
          · obtain ⟨k1, k2, k3⟩ := h.fs f (List.mem_of_getElem? h1)
            exact ⟨k1, by simp only; omega, Int.le_refl _⟩
      · rw [h2]
        exact h.pow
    · exact h.pow
  · exact h
theorem okD.rem {k : Nat} {D : Dk} (h : okD k D) (name : ByteArray) : okD k (D.rem name).2 := by
  unfold Dk.rem
  split
  · rename_i hk
    split
    · have hko := know_ok hk
      obtain ⟨f, h1, _⟩ := Dk.at_get hko.2.1
      have hl := (List.getElem?_eq_some_iff.1 h1).1
      refine ⟨h.q, ?_, ?_, fun g hg => h.fs g (mem_outFl hg), powL_ok h.l⟩
      · show totF (outFl D.L (D.at name)) ≤ D.q
        rw [outF_tot _ _ f h1]
        have := h.tot
        omega
      · show (outFl D.L (D.at name)).length ≤ k
        rw [outF_len _ _ hl]
        have := h.len
        omega
    · exact h.pow
  · exact h
theorem placeF_tot (L : List FileM) (g : FileM) : totF (placeF L g) ≤ totF L + g.data.length := by
  unfold placeF
  split
  · rename_i h
    obtain ⟨f, h1, _⟩ := find_some h
    rw [totF_set h1]
    omega
  · rw [totF_ins]; omega
theorem placeF_len (L : List FileM) (g : FileM) : (placeF L g).length ≤ L.length + 1 := by
  unfold placeF
  split
  · rw [List.length_set]; omega
  · simp; omega
theorem placeF_mem {L : List FileM} {g f : FileM} (h : f ∈ placeF L g) : f ∈ L ∨ f = g := by
  unfold placeF at h
  split at h
  · rcases List.mem_or_eq_of_mem_set h with h | h
    · exact .inl h
    · exact .inr h
  · rcases List.mem_append.1 h with h | h
    · rcases List.mem_append.1 h with h | h
      · exact .inl (List.mem_of_mem_take h)
      · exact .inr (by simpa using h)
    · exact .inl (List.mem_of_mem_drop h)
theorem okD.ren {k : Nat} {D : Dk} (h : okD k D) (name to : ByteArray) : okD k (D.ren name to).2 := by
  unfold Dk.ren
  split
  · exact h
  · split
    · rename_i hk
      split
      · have hko := know_ok hk
        obtain ⟨f, h1, _⟩ := Dk.at_get hko.2.1
        have hl := (List.getElem?_eq_some_iff.1 h1).1
        have e : renF D.L (D.at name) to = placeF (outFl D.L (D.at name)) ⟨to, f.data, f.kept⟩ := by unfold renF; rw [h1]
        refine ⟨h.q, ?_, ?_, fun g hg => ?_, powL_ok h.l⟩
        · show totF (renF D.L (D.at name) to) ≤ D.q
          rw [e]
          have h2 := placeF_tot (outFl D.L (D.at name)) ⟨to, f.data, f.kept⟩
          rw [outF_tot _ _ f h1] at h2
          have := h.tot
          simp only at h2
          omega
        · show (renF D.L (D.at name) to).length ≤ k
          rw [e]
          have h2 := placeF_len (outFl D.L (D.at name)) ⟨to, f.data, f.kept⟩
          rw [outF_len _ _ hl] at h2
          have := h.len
          omega
        · have hg : g ∈ renF D.L (D.at name) to := hg
          rw [e] at hg
          rcases placeF_mem hg with hg | rfl
          · exact h.fs g (mem_outFl hg)
          · exact h.fs f (List.mem_of_getElem? h1)
      · exact h.pow
    · exact h
theorem crF_tot (ps : List Int) (L : List FileM) (h : ∀ f ∈ L, okFile f) : totF (crF ps L) ≤ totF L := by
  suffices hs : ∀ (L : List FileM) (ps : List Int), totF (L.mapIdx fun i f => cr1 f (ps.getD i 0)) ≤ totF L from hs L ps
  intro L
  induction L with
  | nil => intro ps; simp [totF]
  | cons f L ih =>
    intro ps
    have e : (fun i (f : FileM) => cr1 f (ps.getD (i + 1) 0)) = fun i f => cr1 f (ps.tail.getD i 0) := by
      funext i f
      congr 1
      cases ps <;> simp
    rw [List.mapIdx_cons]
    simp only [totF]
    have h2 := ih ps.tail
    rw [← e] at h2
    have h3 : (cr1 f (ps.getD 0 0)).data.length ≤ f.data.length := by unfold cr1; simp only [List.length_take]; omega
    omega
theorem okD.crash {k : Nat} {D : Dk} (h : okD k D) (ps : List Int) : okD k (D.crash ps) := by
  refine ⟨h.q, ?_, ?_, fun g hg => ?_, ⟨Int.le_refl _, (by decide : (0 : Int) ≤ 9223372036854775807)⟩⟩
  · exact Int.le_trans (crF_tot ps D.L h.fs) h.tot
  · show (crF ps D.L).length ≤ k
    rw [crF_len]; exact h.len
  · have hg : g ∈ crF ps D.L := hg
    unfold crF at hg
    rw [List.mem_mapIdx] at hg
    obtain ⟨i, hi, rfl⟩ := hg
    have hf := h.fs _ (List.getElem_mem hi)
    have hs := stay_le D.L[i] (ps.getD i 0) hf
    refine ⟨hf.1.take _, ?_, ?_⟩
    · show (0 : Int) ≤ (stayN _ _ : Int)
      omega
    · show (stayN _ _ : Int) ≤ ((D.L[i].data.take (stayN _ _)).length : Int)
      rw [List.length_take]
      omega

end Go.Proofs.Ytmjmbfcfnhnpmaa
