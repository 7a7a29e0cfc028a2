/- A put or a taking out changes no other pair. No condition. -/
import Derived.Test.YtbceikkjogbgeaaKvA
namespace Go.Proofs.Ytbceikkjogbgeaa
open Go.RowKit
set_option linter.all false
def othersX (xs : List (List PD)) (k j v : ByteArray) : Bool := true

structure FsB where
  others : List (List PD) → ByteArray → ByteArray → ByteArray → Bool
  isP : List (List PD) → Prop
def FsB0 : FsB where
  others := othersX
  isP := isP
set_option maxRecDepth 100000 in
theorem v_others (xs : List (List PD)) (k : ByteArray) (j : ByteArray) (v : ByteArray) (hp0 : FsB0.isP xs) : FnV Try.prog 4 [.d (.slc 3 xs), strD k, strD j, strD v] (boolD ((othersX xs k j v))) := by
  obtain ⟨ps, hps, hs, hl⟩ := rise_srt hp0
  have hpr := hp0.rise
  obtain ⟨ds, hd1, hd2, hd3, hd4⟩ := del_look hs k
  have g1 := get_look hs j
  have g2 := get_look hd2 j
  have hput : (putX (pairsX ps) k v).2 = 0 → k ≠ j → getP (putX (pairsX ps) k v).1 j = gotL ps j ∧ (getP (putX (pairsX ps) k v).1 k).2 = true ∧ (getP (putX (pairsX ps) k v).1 k).1.value = v := by
    intro h hn
    obtain ⟨qs, e1, e2, e3, e4⟩ := put_look hs k v h
    rw [e1, get_look e2, get_look e2]
    unfold gotL
    rw [e3 j (Ne.symm hn), e4]
    exact ⟨rfl, rfl, rfl⟩
  have hdel : k ≠ j → getP (delX (pairsX ps) k).1 j = gotL ps j := by
    intro hn
    rw [hd1, g2]
    unfold gotL
    rw [hd3 j (Ne.symm hn)]
  have hq1 := hpr.put k v
  have hq2 := hpr.delX k
  rw [hps] at hpr hq1 hq2
  obtain ⟨GFsA, hGFsA⟩ : ∃ F, F = FsA0 := ⟨_, rfl⟩
  obtain ⟨GFsG, hGFsG⟩ : ∃ F, F = FsG0 := ⟨_, rfl⟩
  obtain ⟨GFsH, hGFsH⟩ : ∃ F, F = FsH0 := ⟨_, rfl⟩
  obtain ⟨GFsDl, hGFsDl⟩ : ∃ F, F = FsDl0 := ⟨_, rfl⟩
  obtain ⟨GFsU, hGFsU⟩ : ∃ F, F = FsU0 := ⟨_, rfl⟩
  have hH : SoundK Try.prog [kn_rise GFsA, kn_get GFsG, kn_put GFsH, kn_del GFsDl, kn_runs GFsU] := by subst hGFsA hGFsG hGFsH hGFsDl hGFsU; exact orK_ok ok_rise (orK_ok ok_get (orK_ok ok_put (orK_ok ok_del (orK_ok ok_runs noK_ok))))
  refine FnD_cbv (T := fun _ => tabY [] []) (H := fun _ => [kn_rise GFsA, kn_get GFsG, kn_put GFsH, kn_del GFsDl, kn_runs GFsU]) (tabY_ok _ _) hH follows_mixed Try.func4 rfl Try.ntmps4 (by simp) fun A X W hA hX hW => ?_
  cbv
  repeat' first
    | (refine part (fun h => ?_) (fun h => ?_) <;> try cbv)
    | (refine And.intro ?_ ?_)
  all_goals subst hA hX hW hGFsA hGFsG hGFsH hGFsDl hGFsU
  all_goals simp only [A0, nc, FsA0, FsG0, FsH0, FsDl0, FsU0, hps, g1] at *
  all_goals first
    | assumption
    | exact hp0
    | (intro hq; exact hq)
    | (intros; assumption)
    | (intros; trivial)
    | skip
  all_goals by_cases hn : k = j
  all_goals by_cases hw : (putX (pairsX ps) k v).2 = 0
  all_goals first
    | (simp_all; done)
    | (refine ret_v ?_ rfl; simp_all [boolD, othersX]; done)
end Go.Proofs.Ytbceikkjogbgeaa
