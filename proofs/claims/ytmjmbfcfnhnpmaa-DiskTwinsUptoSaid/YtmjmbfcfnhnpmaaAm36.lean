/- The program logic, thirty-sixth part: a map of numbers besides the boxes: what it holds, what its operations do. No condition: lemmas of any program. -/
import Derived.Test.YtmjmbfcfnhnpmaaAm35
import Derived.Maps.Keyed
import Derived.DeepKeys4
namespace Go.Proofs.Ytmjmbfcfnhnpmaa
open Go.RowKit Go.Maps
set_option linter.all false

/-- What a map holds: each key's number (nought: it isn't there, or it is with nought). -/
def MapOk (P : Program) (kt : TypeId) (es : Array MapEntry) (clock : Nat) (F : Value → Int) : Prop :=
  (∀ e ∈ es.toList, (∃ l, keyOf P kt e.key = some l) ∧ e.val = .int .i64 (F e.key) ∧ e.born < clock) ∧ (∀ x, (∀ e ∈ es.toList, e.key ≠ x) → F x = 0) ∧
  es.toList.Pairwise fun a b => a.key ≠ b.key ∧ a.born ≠ b.born
def MapAny (P : Program) (kt : TypeId) (g : Nat) (F : Value → Int) (w : World) : Prop := ∃ es clock, w.heap[g]? = some (.map es clock) ∧ MapOk P kt es clock F
/-- The same, with the stamp of one key: the one that it has, or will have. -/
def MapAt (P : Program) (kt : TypeId) (g : Nat) (x0 : Value) (b0 : Nat) (F : Value → Int) (there : Bool) (w : World) : Prop := ∃ es clock, w.heap[g]? = some (.map es clock) ∧ MapOk P kt es clock F ∧
  ((∃ e ∈ es.toList, e.key = x0 ∧ e.born = b0) ∨ ((∀ e ∈ es.toList, e.key ≠ x0) ∧ clock = b0)) ∧ (there = true → ∃ e ∈ es.toList, e.key = x0)
theorem MapAt.any {P : Program} {kt : TypeId} {g : Nat} {x0 : Value} {b0 : Nat} {F : Value → Int} {there : Bool} {w : World} (h : MapAt P kt g x0 b0 F there w) : MapAny P kt g F w := by
  obtain ⟨es, clock, h1, h2, _⟩ := h
  exact ⟨es, clock, h1, h2⟩
theorem MapAny.at {P : Program} {kt : TypeId} {g : Nat} {F : Value → Int} {w : World} (h : MapAny P kt g F w) (x0 : Value) : ∃ b0, MapAt P kt g x0 b0 F false w := by
  obtain ⟨es, clock, h1, h2⟩ := h
  by_cases hx : ∃ e ∈ es.toList, e.key = x0
  · obtain ⟨e, he, hk⟩ := hx
    exact ⟨e.born, es, clock, h1, h2, .inl ⟨e, he, hk, rfl⟩, fun h => by cases h⟩
  · refine ⟨clock, es, clock, h1, h2, .inr ⟨fun e he hk => hx ⟨e, he, hk⟩, rfl⟩, fun h => by cases h⟩
/-- One key's number turned. -/
noncomputable def putF (F : Value → Int) (x : Value) (n : Int) : Value → Int := fun y => open Classical in if y = x then n else F y

theorem run_getM {P : Program} {w : World} {r : Nat} {es : Array MapEntry} {clock : Nat} (hb : w.heap[r]? = some (.map es clock)) : (getObj r).run P w = .ok (.map es clock) w := by
  simp [getObj, Sem.run, hb]
theorem run_setM {P : Program} {w : World} {r : Nat} {es : Array MapEntry} {clock : Nat} (o : Obj) (hb : w.heap[r]? = some (.map es clock)) : (setObj r o).run P w = .ok () { w with heap := w.heap.setIfInBounds r o } := by
  simp [setObj, Sem.run, hb]
section runs
variable {P : Program} {w : World} {mt kt et : TypeId} {g : Nat} {F : Value → Int} (K : Keyed P kt) (hm : P.underlying mt = some (.map kt et)) (hz : ∃ i, P.info? et = some i ∧ i.zero = some (.int .i64 0))
include K hm hz
theorem run_look {x : Value} {l : Lit} (h : MapAny P kt g F w) (hx : keyOf P kt x = some l) : (Instr.lookup mt (.map (some g)) x false).run P w = .ok (.int .i64 (F x)) w := by
  obtain ⟨es, clock, h1, h2, h3, h4⟩ := h
  obtain ⟨i, hi, hz⟩ := hz
  rcases K.find w hx es.toList (fun e he => (h2 e he).1) with ⟨f1, f2⟩ | ⟨j, e, f1, f2, f3⟩
  · simp [Instr.lookup, run_underlying hm, run_getM h1, K.check w _ hx, f1, Result.andThen, zeroValue, typeInfo, hi, hz, h3 x f2]
  · have he := List.mem_of_getElem? f2
    have hv := (h2 e he).2.1
    simp [Instr.lookup, run_underlying hm, run_getM h1, K.check w _ hx, f1, Result.andThen, hv, f3]
theorem run_entry {x : Value} {b0 : Nat} {l : Lit} {there : Bool} (h : MapAt P kt g x b0 F there w) (hx : keyOf P kt x = some l) :
    ∃ es' clock', (Instr.mapEntry mt (.map (some g)) x).run P w = .ok (.tuple #[.int .i64 (F x), .int .i64 b0]) { w with heap := w.heap.setIfInBounds g (.map es' clock') } ∧
      MapAt P kt g x b0 F true { w with heap := w.heap.setIfInBounds g (.map es' clock') } := by
  obtain ⟨es, clock, h1, ⟨h2, h3, h4⟩, h5, h6⟩ := h
  obtain ⟨i, hi, hz⟩ := hz
  have hg : g < w.heap.size := (Array.getElem?_eq_some_iff.1 h1).1
  have hset : ∀ o : Obj, (w.heap.setIfInBounds g o)[g]? = some o := fun o => by simp [hg]
  rcases K.find w hx es.toList (fun e he => (h2 e he).1) with ⟨f1, f2⟩ | ⟨j, e, f1, f2, f3⟩
  · have h5 : clock = b0 := by
      rcases h5 with ⟨e, he, hk, _⟩ | ⟨_, h5⟩
      · exact absurd hk (f2 e he)
      · exact h5
    subst h5
    refine ⟨es.push { key := x, val := .int .i64 0, born := clock }, clock + 1, ?_, es.push { key := x, val := .int .i64 0, born := clock }, clock + 1, hset _, ⟨?_, ?_, ?_⟩, .inl ⟨_, by rw [Array.toList_push, List.mem_append]; exact .inr (List.mem_singleton.2 rfl), rfl, rfl⟩, fun _ => ⟨_, by rw [Array.toList_push, List.mem_append]; exact .inr (List.mem_singleton.2 rfl), rfl⟩⟩
    · simp [Instr.mapEntry, run_underlying hm, run_getM h1, K.check w _ hx, f1, Result.andThen, zeroValue, typeInfo, hi, hz, run_setM _ h1, h3 x f2, goInt]
    · intro e he
      simp only [Array.toList_push, List.mem_append, List.mem_singleton] at he
      rcases he with he | rfl
      · obtain ⟨a, b, c⟩ := h2 e he
        exact ⟨a, b, by omega⟩
      · exact ⟨⟨l, hx⟩, by rw [h3 x f2], by simp⟩
    · intro y hy
      exact h3 y fun e he => hy e (by simp only [Array.toList_push, List.mem_append]; exact .inl he)
    · simp only [Array.toList_push]
      rw [List.pairwise_append]
      refine ⟨h4, by simp, fun a ha b hb => ?_⟩
      simp only [List.mem_singleton] at hb
      subst hb
      exact ⟨f2 a ha, by have := (h2 a ha).2.2; simp only; omega⟩
  · have he := List.mem_of_getElem? f2
    have hv := (h2 e he).2.1
    have hj : es[j]? = some e := by simpa using f2
    have hjl : j < es.size := (Array.getElem?_eq_some_iff.1 hj).1
    have hje : es[j] = e := (Array.getElem?_eq_some_iff.1 hj).2
    have hmod : es.modify j (fun e => { e with key := x }) = es := by
      apply Array.ext
      · simp
      · intro k h1 h2
        rw [Array.getElem_modify]
        split
        · rename_i hk
          subst hk
          rw [hje, ← f3]
        · rfl
    have hb : e.born = b0 := by
      rcases h5 with ⟨e', he', hk, hb⟩ | ⟨h5, _⟩
      · have : e = e' := by
          obtain ⟨j', hj'⟩ := List.getElem?_of_mem he'
          obtain ⟨l1, q1⟩ := List.getElem?_eq_some_iff.1 f2
          obtain ⟨l2, q2⟩ := List.getElem?_eq_some_iff.1 hj'
          rcases Nat.lt_trichotomy j j' with hlt | heq | hgt
          · exact absurd (by rw [q1, q2, f3, hk]) (List.pairwise_iff_getElem.1 h4 j j' l1 l2 hlt).1
          · subst heq; rw [← q1, ← q2]
          · exact absurd (by rw [q1, q2, f3, hk]) (List.pairwise_iff_getElem.1 h4 j' j l2 l1 hgt).1
        rw [this]; exact hb
      · exact absurd f3 (h5 e he)
    refine ⟨es, clock, ?_, es, clock, hset _, ⟨h2, h3, h4⟩, .inl ⟨e, he, f3, hb⟩, fun _ => ⟨e, he, f3⟩⟩
    simp [Instr.mapEntry, run_underlying hm, run_getM h1, K.check w _ hx, f1, Result.andThen, hj, f3, K.stays w hx, hmod, run_setM _ h1, hv, hb, goInt]
omit K hm hz
theorem run_estore {x : Value} {b0 : Nat} {n : Int} (h : MapAt P kt g x b0 F true w) :
    ∃ es' clock', (Instr.entryStore mt (.map (some g)) (.int .i64 b0) (.int .i64 n)).run P w = .ok () { w with heap := w.heap.setIfInBounds g (.map es' clock') } ∧
      MapAt P kt g x b0 (putF F x n) true { w with heap := w.heap.setIfInBounds g (.map es' clock') } := by
  obtain ⟨es, clock, h1, ⟨h2, h3, h4⟩, h5, h6⟩ := h
  have hg : g < w.heap.size := (Array.getElem?_eq_some_iff.1 h1).1
  have hset : ∀ o : Obj, (w.heap.setIfInBounds g o)[g]? = some o := fun o => by simp [hg]
  obtain ⟨e, he, hk, hb⟩ : ∃ e ∈ es.toList, e.key = x ∧ e.born = b0 := by
    rcases h5 with h5 | ⟨h5, _⟩
    · exact h5
    · obtain ⟨e, he, hk⟩ := h6 rfl
      exact absurd hk (h5 e he)
  obtain ⟨j, hj⟩ := List.getElem?_of_mem he
  obtain ⟨l1, q1⟩ := List.getElem?_eq_some_iff.1 hj
  have uniq : ∀ (i : Nat) (hi : i < es.toList.length), es.toList[i].key = x ∨ es.toList[i].born = b0 → i = j := by
    intro i hi hor
    rcases Nat.lt_trichotomy i j with hlt | heq | hgt
    · have := List.pairwise_iff_getElem.1 h4 i j hi l1 hlt
      rw [q1, hk, hb] at this
      rcases hor with h | h
      · exact absurd h this.1
      · exact absurd h this.2
    · exact heq
    · have := List.pairwise_iff_getElem.1 h4 j i l1 hi hgt
      rw [q1, hk, hb] at this
      rcases hor with h | h
      · exact absurd h.symm this.1
      · exact absurd h.symm this.2
  have hsz : j < es.size := by simpa using l1
  have hfind : es.findIdx? (fun e => (e.born : Int) == (b0 : Int)) = some j := by
    rw [Array.findIdx?_eq_some_iff_getElem]
    refine ⟨hsz, ?_, fun i hi => ?_⟩
    · have : es[j].born = b0 := by rw [← hb, ← q1]; simp
      simp [this]
    · have hi' : i < es.toList.length := by simp; omega
      have := uniq i hi'
      simp only [beq_iff_eq]
      intro e
      have : i = j := this (.inr (by rw [Array.getElem_toList]; omega))
      omega
  have hl : (es.modify j (fun e => { e with val := .int .i64 n })).toList = es.toList.set j { es.toList[j] with val := .int .i64 n } := by
    apply List.ext_getElem
    · simp
    · intro i h1 h2
      rw [List.getElem_set, Array.getElem_toList, Array.getElem_modify]
      split
      · rename_i e; subst e; simp
      · simp
  refine ⟨es.modify j (fun e => { e with val := .int .i64 n }), clock, ?_, _, clock, hset _, ⟨?_, ?_, ?_⟩, .inl ⟨{ e with val := .int .i64 n }, ?_, hk, hb⟩, fun _ => ⟨{ e with val := .int .i64 n }, ?_, hk⟩⟩
  · simp [Instr.entryStore, run_getM h1, asInt, asIntOf, hfind, run_setM _ h1, Result.andThen]
  · rw [hl]
    intro e' he'
    obtain ⟨i, hi⟩ := List.getElem?_of_mem he'
    obtain ⟨l2, q2⟩ := List.getElem?_eq_some_iff.1 hi
    rw [List.getElem_set] at q2
    split at q2
    · rename_i hij
      subst hij
      obtain ⟨a, b, c⟩ := h2 e he
      rw [q1] at q2
      subst q2
      exact ⟨a, by simp [putF, hk], c⟩
    · rename_i hij
      have l3 : i < es.toList.length := by simpa using l2
      have hm' : es.toList[i] ∈ es.toList := List.getElem_mem l3
      rw [q2] at hm'
      obtain ⟨a, b, c⟩ := h2 e' hm'
      refine ⟨a, ?_, c⟩
      have hne : e'.key ≠ x := fun hq => hij ((uniq i l3 (.inl (by rw [q2]; exact hq))).symm)
      rw [b]
      simp [putF, hne]
  · intro y hy
    have hy' : ∀ e ∈ es.toList, e.key ≠ y := by
      intro e' he' hk'
      rw [hl] at hy
      obtain ⟨i, hi⟩ := List.getElem?_of_mem he'
      obtain ⟨l2, q2⟩ := List.getElem?_eq_some_iff.1 hi
      by_cases hij : i = j
      · subst hij
        refine hy { es.toList[i] with val := .int .i64 n } (List.mem_iff_getElem?.2 ⟨i, by rw [List.getElem?_set_self l2]⟩) ?_
        rw [← hk', ← q2]
      · refine hy e' (List.mem_iff_getElem?.2 ⟨i, ?_⟩) hk'
        rw [List.getElem?_set, if_neg (fun e => hij e.symm)]
        exact hi
    have hne : y ≠ x := fun e' => hy' e he (by rw [hk, e'])
    simp only [putF, hne, if_false]
    exact h3 y hy'
  · rw [hl, List.pairwise_iff_getElem]
    intro i k hi hk' hik
    have hi2 : i < es.toList.length := by simpa using hi
    have hk2 : k < es.toList.length := by simpa using hk'
    have := List.pairwise_iff_getElem.1 h4 i k hi2 hk2 hik
    rw [List.getElem_set, List.getElem_set]
    split <;> split <;> rename_i e1 e2 <;> first
      | (subst e1; exact this)
      | (subst e2; exact this)
      | exact this
      | (subst e1; subst e2; exact this)
  · rw [hl]
    exact List.mem_iff_getElem?.2 ⟨j, by rw [List.getElem?_set_self l1, q1]⟩
  · rw [hl]
    exact List.mem_iff_getElem?.2 ⟨j, by rw [List.getElem?_set_self l1, q1]⟩
end runs
end Go.Proofs.Ytmjmbfcfnhnpmaa
