/- Lists whose keys rise: what is got, put, taken out; the rising beginning of a list. No condition. -/
import Derived.Test.YtbceikkjogbgeaaKv8
namespace Go.Proofs.Ytbceikkjogbgeaa
open Go.RowKit
set_option linter.all false
/-- The keys rise. -/
def Srt (ps : List Pair) : Prop := ps.Pairwise fun p q => ltb p.key q.key = true
def look (ps : List Pair) (key : ByteArray) : Option Pair := ps.find? fun p => decide (p.key = key)
theorem findL_split (key : ByteArray) : ∀ (ps : List Pair) (i : Int), ∃ a b, ps = a ++ b ∧ (findL key ps i).1 = i + (a.length : Int) ∧ (∀ p ∈ a, ltb p.key key = true) ∧
    (b = [] ∧ (findL key ps i).2 = false ∨ ∃ q r, b = q :: r ∧ ltb q.key key = false ∧ (findL key ps i).2 = decide (q.key = key))
  | [], i => ⟨[], [], rfl, by simp [findL], by simp, .inl ⟨rfl, rfl⟩⟩
  | p :: ps, i => by
      unfold findL
      split
      · rename_i h
        obtain ⟨a, b, h1, h2, h3, h4⟩ := findL_split key ps (i + 1)
        refine ⟨p :: a, b, by rw [h1]; rfl, by rw [h2]; simp only [List.length_cons]; omega, ?_, h4⟩
        intro x hx
        simp only [List.mem_cons] at hx
        rcases hx with rfl | hx
        · exact h
        · exact h3 x hx
      · rename_i h
        exact ⟨[], p :: ps, rfl, by simp, by simp, .inr ⟨p, ps, rfl, by simpa using h, rfl⟩⟩
theorem ltb_ne {a b : ByteArray} (h : ltb a b = true) : a ≠ b := by
  rintro rfl
  rw [ltb_irrefl] at h
  cases h
theorem ltb_asymm {a b : ByteArray} (h : ltb a b = true) : ltb b a = false := by
  cases e : ltb b a with
  | false => rfl
  | true =>
    have := ltb_trans h e
    rw [ltb_irrefl] at this
    cases this
theorem ltb_not {a b : ByteArray} (h : ltb a b = false) (hn : a ≠ b) : ltb b a = true := by
  have := ltb_total a b
  rw [h] at this
  simp only [Bool.not_false, Bool.true_eq, Bool.or_eq_true, decide_eq_true_eq] at this
  rcases this with h | h
  · exact h
  · exact absurd h.symm hn
theorem look_none {ps : List Pair} {key : ByteArray} (h : ∀ p ∈ ps, p.key ≠ key) : look ps key = none := by
  simp only [look, List.find?_eq_none, decide_eq_true_eq]
  exact h
theorem look_append (a b : List Pair) (key : ByteArray) : look (a ++ b) key = (look a key).or (look b key) := by
  simp [look, List.find?_append]
theorem look_cons_ne {p : Pair} {ps : List Pair} {key : ByteArray} (h : p.key ≠ key) : look (p :: ps) key = look ps key := by
  simp [look, h]
theorem look_cons_eq {p : Pair} {ps : List Pair} : look (p :: ps) p.key = some p := by
  simp [look]
/-- What is got of a list that rises. -/
def gotL (ps : List Pair) (key : ByteArray) : Pair × Bool := match look ps key with
  | some p => (p, true)
  | none => (⟨none8, none8, 0⟩, false)
theorem rowP_at (a : List Pair) (q : Pair) (r : List Pair) : (pairsX (a ++ q :: r)).getD a.length [] = q.row := by
  simp [pairsX, List.getD_eq_getElem?_getD]
theorem Srt.split {a b : List Pair} {q : Pair} (h : Srt (a ++ q :: b)) : (∀ p ∈ b, ltb q.key p.key = true) := by
  unfold Srt at h
  rw [List.pairwise_append] at h
  exact fun p hp => (List.pairwise_cons.1 h.2.1).1 p hp
theorem get_look {ps : List Pair} (hs : Srt ps) (key : ByteArray) : getP (pairsX ps) key = gotL ps key := by
  obtain ⟨a, b, h1, h2, h3, h4⟩ := findL_split key ps 0
  have ha : look a key = none := look_none fun p hp => ltb_ne (h3 p hp)
  unfold getP getX thereX gotL findX
  rw [pairsOf_X]
  subst h1
  rcases h4 with ⟨rfl, h5⟩ | ⟨q, r, rfl, h5, h6⟩
  · rw [h5, if_neg (by simp), List.append_nil, ha]
  · rw [h6]
    by_cases e : q.key = key
    · rw [if_pos (by simpa using e), h2, look_append, ha]
      subst e
      rw [look_cons_eq]
      simp only [Option.none_or, decide_true]
      rw [show ((0 : Int) + (a.length : Int)).toNat = a.length by omega, rowP_at, rowP_row]
    · have hr : look r key = none := look_none fun p hp => (ltb_ne (ltb_trans (ltb_not h5 e) (hs.split p hp))).symm
      rw [if_neg (by simpa using e), look_append, ha, look_cons_ne e, hr]
      simp [e]
/-- Taken out. -/
theorem del_look {ps : List Pair} (hs : Srt ps) (key : ByteArray) : ∃ qs, (delX (pairsX ps) key).1 = pairsX qs ∧ Srt qs ∧ (∀ j, j ≠ key → look qs j = look ps j) ∧ look qs key = none := by
  obtain ⟨a, b, h1, h2, h3, h4⟩ := findL_split key ps 0
  have ha : look a key = none := look_none fun p hp => ltb_ne (h3 p hp)
  unfold delX findX
  rw [pairsOf_X]
  subst h1
  rcases h4 with ⟨rfl, h5⟩ | ⟨q, r, rfl, h5, h6⟩
  · rw [if_neg (by rw [h5]; simp)]
    exact ⟨_, rfl, hs, fun _ _ => rfl, by rw [List.append_nil]; exact ha⟩
  · by_cases e : q.key = key
    · rw [if_pos (by rw [h6]; simpa using e), h2, show ((0 : Int) + (a.length : Int)).toNat = a.length by omega]
      refine ⟨a ++ r, ?_, ?_, ?_, ?_⟩
      · simp only [delP, pairsX]
        rw [← List.map_take, ← List.map_drop, List.take_append_of_le_length (Nat.le_refl _), List.take_length, List.drop_append]
        simp
      · exact hs.sublist (List.Sublist.append (List.Sublist.refl a) (List.sublist_cons_self q r))
      · intro j hj
        rw [look_append, look_append, look_cons_ne (fun h => hj (by rw [← h, e]))]
      · rw [look_append, ha]
        exact look_none fun p hp => (ltb_ne (by rw [← e]; exact hs.split p hp)).symm
    · rw [if_neg (by rw [h6]; simpa using e)]
      have hr : look r key = none := look_none fun p hp => (ltb_ne (ltb_trans (ltb_not h5 e) (hs.split p hp))).symm
      exact ⟨_, rfl, hs, fun _ _ => rfl, by rw [look_append, ha, look_cons_ne e, hr]; rfl⟩
theorem Srt.keys {a b : List Pair} {p q : Pair} (h : Srt (a ++ q :: b)) (e : p.key = q.key) : Srt (a ++ p :: b) := by
  unfold Srt at *
  rw [List.pairwise_append, List.pairwise_cons] at *
  refine ⟨h.1, ⟨fun x hx => by rw [e]; exact h.2.1.1 x hx, h.2.1.2⟩, fun x hx y hy => ?_⟩
  simp only [List.mem_cons] at hy
  rcases hy with rfl | hy
  · rw [e]; exact h.2.2 x hx q (by simp)
  · exact h.2.2 x hx y (by simp [hy])
/-- Put, where there is room. -/
theorem put_look {ps : List Pair} (hs : Srt ps) (key value : ByteArray) (hw : (putX (pairsX ps) key value).2 = 0) : ∃ qs, (putX (pairsX ps) key value).1 = pairsX qs ∧ Srt qs ∧ (∀ j, j ≠ key → look qs j = look ps j) ∧
    look qs key = some ⟨key, value, match look ps key with | some p => IntKind.wrap .i64 (p.version + 1) | none => 1⟩ := by
  obtain ⟨a, b, h1, h2, h3, h4⟩ := findL_split key ps 0
  have ha : look a key = none := look_none fun p hp => ltb_ne (h3 p hp)
  revert hw
  unfold putX findX
  rw [pairsOf_X]
  subst h1
  rcases h4 with ⟨rfl, h5⟩ | ⟨q, r, rfl, h5, h6⟩
  · rw [if_neg (by rw [h5]; simp)]
    split
    · intro h; cases h
    · intro _
      rw [h2, show ((0 : Int) + (a.length : Int)).toNat = a.length by omega, List.append_nil]
      refine ⟨a ++ [⟨key, value, 1⟩], ?_, ?_, ?_, ?_⟩
      · simp only [newP, pairsX]
        rw [← List.map_take, ← List.map_drop]
        simp
      · unfold Srt
        rw [List.append_nil] at hs
        rw [List.pairwise_append]
        refine ⟨hs, by simp, fun x hx y hy => ?_⟩
        simp only [List.mem_singleton] at hy
        subst hy
        exact h3 x hx
      · intro j hj
        rw [look_append, look_cons_ne (fun h => hj h.symm)]
        simp [look]
      · rw [look_append, ha]
        simp [look]
  · by_cases e : q.key = key
    · rw [if_pos (by rw [h6]; simpa using e), h2, show ((0 : Int) + (a.length : Int)).toNat = a.length by omega]
      intro _
      subst e
      refine ⟨a ++ ⟨q.key, value, IntKind.wrap .i64 (q.version + 1)⟩ :: r, ?_, hs.keys rfl, ?_, ?_⟩
      · simp only [setP, rowP_at, rowP_row]
        simp [pairsX]
      · intro j hj
        rw [look_append, look_append, look_cons_ne (p := q) (fun h => hj h.symm), look_cons_ne (p := ⟨q.key, value, _⟩) (fun h => hj h.symm)]
      · rw [look_append, look_append, ha, show look (⟨q.key, value, IntKind.wrap .i64 (q.version + 1)⟩ :: r) q.key = some ⟨q.key, value, IntKind.wrap .i64 (q.version + 1)⟩ from look_cons_eq (p := ⟨q.key, value, IntKind.wrap .i64 (q.version + 1)⟩), look_cons_eq (p := q)]
        rfl
    · rw [if_neg (by rw [h6]; simpa using e)]
      have hr : look r key = none := look_none fun p hp => (ltb_ne (ltb_trans (ltb_not h5 e) (hs.split p hp))).symm
      split
      · intro h; cases h
      · intro _
        rw [h2, show ((0 : Int) + (a.length : Int)).toNat = a.length by omega]
        refine ⟨a ++ ⟨key, value, 1⟩ :: q :: r, ?_, ?_, ?_, ?_⟩
        · simp only [newP, pairsX]
          rw [← List.map_take, ← List.map_drop]
          simp
        · unfold Srt at *
          rw [List.pairwise_append, List.pairwise_cons] at *
          refine ⟨hs.1, ⟨fun x hx => ?_, by rw [List.pairwise_cons]; exact hs.2.1⟩, fun x hx y hy => ?_⟩
          · simp only [List.mem_cons] at hx
            rcases hx with rfl | hx
            · exact ltb_not h5 e
            · exact ltb_trans (ltb_not h5 e) (hs.2.1.1 x hx)
          · simp only [List.mem_cons] at hy
            rcases hy with rfl | hy
            · exact h3 x hx
            · exact hs.2.2 x hx y (by simpa using hy)
        · intro j hj
          rw [look_append, look_append, look_cons_ne (fun h => hj h.symm)]
        · rw [look_append, look_append, ha, look_cons_ne e, hr, show look (⟨key, value, 1⟩ :: q :: r) key = some ⟨key, value, 1⟩ from look_cons_eq (p := ⟨key, value, 1⟩)]
          rfl
/-- How many pairs rise behind one. -/
def riseI (last : Pair) : List Pair → Nat
  | [] => 0
  | p :: ps => if ltb last.key p.key = true then 1 + riseI p ps else 0
def riseN : List Pair → Nat
  | [] => 0
  | p :: ps => 1 + riseI p ps
def riseX (xs : List (List PD)) : List (List PD) := xs.take (riseN (pairsOf xs))
theorem riseI_srt : ∀ (p : Pair) (ps : List Pair), Srt (p :: ps.take (riseI p ps))
  | p, [] => by simp [Srt]
  | p, q :: ps => by
      unfold riseI
      split
      · rename_i h
        rw [Nat.add_comm, List.take_succ_cons]
        have ih := riseI_srt q ps
        unfold Srt at *
        rw [List.pairwise_cons]
        refine ⟨fun x hx => ?_, ih⟩
        simp only [List.mem_cons] at hx
        rcases hx with rfl | hx
        · exact h
        · exact ltb_trans h ((List.pairwise_cons.1 ih).1 x hx)
      · simp [Srt]
theorem riseN_srt (ps : List Pair) : Srt (ps.take (riseN ps)) := by
  cases ps with
  | nil => simp [Srt]
  | cons p ps =>
    show Srt ((p :: ps).take (1 + riseI p ps))
    rw [Nat.add_comm, List.take_succ_cons]
    exact riseI_srt p ps
theorem riseI_le : ∀ (p : Pair) (ps : List Pair), riseI p ps ≤ ps.length
  | p, [] => by simp [riseI]
  | p, q :: ps => by
      unfold riseI
      have := riseI_le q ps
      split <;> simp only [List.length_cons] <;> omega
theorem riseX_pairs (ps : List Pair) : riseX (pairsX ps) = pairsX (ps.take (riseN ps)) := by
  unfold riseX
  rw [pairsOf_X]
  simp [pairsX]
theorem isP.rise {xs : List (List PD)} (h : isP xs) : isP (riseX xs) := by
  obtain ⟨ps, rfl, hl⟩ := h
  refine ⟨ps.take (riseN ps), riseX_pairs ps, ?_⟩
  rw [List.length_take]
  omega
theorem rise_srt {xs : List (List PD)} (h : isP xs) : ∃ ps, riseX xs = pairsX ps ∧ Srt ps ∧ ps.length ≤ 4194304 := by
  obtain ⟨ps, rfl, hl⟩ := h
  exact ⟨ps.take (riseN ps), riseX_pairs ps, riseN_srt ps, by rw [List.length_take]; omega⟩

end Go.Proofs.Ytbceikkjogbgeaa
