/- Put and taken out again: the list is as it was. No condition. -/
import Derived.Test.YtbceikkjogbgeaaKvB
namespace Go.Proofs.Ytbceikkjogbgeaa
open Go.RowKit
set_option linter.all false
def deletesX (xs : List (List PD)) (k v : ByteArray) : Bool := true
theorem findL_at (key : ByteArray) : ∀ (a : List Pair) (q : Pair) (r : List Pair) (i : Int), (∀ p ∈ a, ltb p.key key = true) → q.key = key → findL key (a ++ q :: r) i = (i + (a.length : Int), true)
  | [], q, r, i, _, h => by
      subst h
      simp [findL, ltb_irrefl]
  | p :: a, q, r, i, h, hq => by
      rw [List.cons_append, findL, if_pos (h p (by simp)), findL_at key a q r (i + 1) (fun x hx => h x (by simp [hx])) hq]
      simp only [List.length_cons, Prod.mk.injEq, and_true]
      omega
theorem put_shape {ps : List Pair} (key value : ByteArray) (hl : look ps key = none) (hw : (putX (pairsX ps) key value).2 = 0) :
    ∃ a b, ps = a ++ b ∧ (∀ p ∈ a, ltb p.key key = true) ∧ (putX (pairsX ps) key value).1 = pairsX (a ++ ⟨key, value, 1⟩ :: b) := by
  obtain ⟨a, b, h1, h2, h3, h4⟩ := findL_split key ps 0
  revert hw
  unfold putX findX
  rw [pairsOf_X]
  have hf : (findL key ps 0).2 = false := by
    rcases h4 with ⟨_, h5⟩ | ⟨q, r, hb, h5, h6⟩
    · exact h5
    · rw [h6]
      simp only [decide_eq_false_iff_not]
      intro e
      subst h1 hb
      rw [look_append, show look (q :: r) key = some q from by rw [← e]; exact look_cons_eq] at hl
      cases look a key <;> simp at hl
  rw [if_neg (by rw [hf]; simp)]
  split
  · intro h; cases h
  · intro _
    refine ⟨a, b, h1, h3, ?_⟩
    rw [h2, show ((0 : Int) + (a.length : Int)).toNat = a.length by omega]
    subst h1
    simp only [newP, pairsX]
    rw [← List.map_take, ← List.map_drop]
    simp
theorem del_at (a b : List Pair) (q : Pair) (key : ByteArray) (h : ∀ p ∈ a, ltb p.key key = true) (hq : q.key = key) : delX (pairsX (a ++ q :: b)) key = (pairsX (a ++ b), true) := by
  unfold delX findX
  rw [pairsOf_X, findL_at key a q b 0 h hq, if_pos rfl]
  simp only [delP, show ((0 : Int) + (a.length : Int)).toNat = a.length by omega, pairsX]
  rw [← List.map_take, ← List.map_drop, List.take_append_of_le_length (Nat.le_refl _), List.take_length, List.drop_append]
  simp
theorem get_at (a b : List Pair) (q : Pair) (key : ByteArray) (h : ∀ p ∈ a, ltb p.key key = true) (hq : q.key = key) : getP (pairsX (a ++ q :: b)) key = (q, true) := by
  unfold getP getX thereX findX
  rw [pairsOf_X, findL_at key a q b 0 h hq, if_pos rfl]
  rw [show ((0 : Int) + (a.length : Int)).toNat = a.length by omega, rowP_at, rowP_row]
theorem same_refl (xs : List (List PD)) : sameX xs xs = true := by simp [sameX]
theorem put_del {ps : List Pair} (hs : Srt ps) (key value : ByteArray) (hg : (getP (pairsX ps) key).2 = false) (hw : (putX (pairsX ps) key value).2 = 0) :
    delX (putX (pairsX ps) key value).1 key = (pairsX ps, true) ∧ getP (putX (pairsX ps) key value).1 key = (⟨key, value, 1⟩, true) := by
  have hl : look ps key = none := by
    rw [get_look hs] at hg
    unfold gotL at hg
    cases h : look ps key with
    | none => rfl
    | some p => rw [h] at hg; cases hg
  obtain ⟨a, b, h1, h2, h3⟩ := put_shape key value hl hw
  rw [h3]
  subst h1
  exact ⟨del_at a b _ key h2 rfl, get_at a b _ key h2 rfl⟩

structure FsC where
  deletes : List (List PD) → ByteArray → ByteArray → Bool
  isP : List (List PD) → Prop
def FsC0 : FsC where
  deletes := deletesX
  isP := isP
set_option maxRecDepth 100000 in
theorem v_deletes (xs : List (List PD)) (k : ByteArray) (v : ByteArray) (hp0 : FsC0.isP xs) : FnV Try.prog 6 [.d (.slc 3 xs), strD k, strD v] (boolD ((deletesX xs k v))) := by
  obtain ⟨ps, hps, hs, hl⟩ := rise_srt hp0
  have hpr := hp0.rise
  have hpd := put_del hs k v
  have hq1 := hpr.put k v
  have hq2 := hq1.delX k
  have hq3 := hq2.put k v
  rw [hps] at hpr hq1 hq2 hq3
  obtain ⟨GFsA, hGFsA⟩ : ∃ F, F = FsA0 := ⟨_, rfl⟩
  obtain ⟨GFsG, hGFsG⟩ : ∃ F, F = FsG0 := ⟨_, rfl⟩
  obtain ⟨GFsH, hGFsH⟩ : ∃ F, F = FsH0 := ⟨_, rfl⟩
  obtain ⟨GFsDl, hGFsDl⟩ : ∃ F, F = FsDl0 := ⟨_, rfl⟩
  obtain ⟨GFsS, hGFsS⟩ : ∃ F, F = FsS0 := ⟨_, rfl⟩
  obtain ⟨GFsU, hGFsU⟩ : ∃ F, F = FsU0 := ⟨_, rfl⟩
  have hH : SoundK Try.prog [kn_rise GFsA, kn_get GFsG, kn_put GFsH, kn_del GFsDl, kn_same GFsS, kn_runs GFsU] := by subst hGFsA hGFsG hGFsH hGFsDl hGFsS hGFsU; exact orK_ok ok_rise (orK_ok ok_get (orK_ok ok_put (orK_ok ok_del (orK_ok ok_same (orK_ok ok_runs noK_ok)))))
  refine FnD_cbv (T := fun _ => tabY [] []) (H := fun _ => [kn_rise GFsA, kn_get GFsG, kn_put GFsH, kn_del GFsDl, kn_same GFsS, kn_runs GFsU]) (tabY_ok _ _) hH follows_mixed Try.func6 rfl Try.ntmps6 (by simp) fun A X W hA hX hW => ?_
  cbv
  repeat' first
    | (refine part (fun h => ?_) (fun h => ?_) <;> try cbv)
    | (refine And.intro ?_ ?_)
  all_goals subst hA hX hW hGFsA hGFsG hGFsH hGFsDl hGFsS hGFsU
  all_goals simp only [A0, nc, FsA0, FsG0, FsH0, FsDl0, FsS0, FsU0, hps] at *
  all_goals first
    | assumption
    | exact hp0
    | (intro hq; exact hq)
    | (intros; assumption)
    | (intros; trivial)
    | skip
  all_goals by_cases hg : (getP (pairsX ps) k).2 = false
  all_goals by_cases hw : (putX (pairsX ps) k v).2 = 0
  all_goals first
    | (simp_all [same_refl]; done)
    | (refine ret_v ?_ rfl; simp_all [boolD, deletesX, same_refl]; done)
end Go.Proofs.Ytbceikkjogbgeaa
