/- One call on the program's disk and on the document's: the answers are the same. No condition. -/
import Derived.Test.YtmjmbfcfnhnpmaaPD
namespace Go.Proofs.Ytmjmbfcfnhnpmaa
open Go.RowKit
set_option linter.all false
set_option maxHeartbeats 4000000
set_option maxRecDepth 100000 in
theorem w_call0 (q lr : Int) (o a : Bool) (l : Int) (L : List FileM) (k j : Int) (nm to : ByteArray) (d xs : List (List PD)) (js : List Int) (hfr : Fr.is L none) (hlr : lr = rlf a l) (hD : okD 900 ⟨q, L, o, a, l⟩) (hs : srtF L) (hnm : nm.size ≤ 1048576) (hto : to.size ≤ 1048576) (hd : isB d) (hjx : xs = intsX js) (hj1 : js.length ≤ 4194304) (hj2 : ∀ p ∈ js, r64 p) : FnD Try.prog 27 [.ref 0 0 0, .ref 1 0 0, .agg [.d (.sc (.int .i64 k)), .d (.sc (.int .i64 j)), .d (.sc (.string nm)), .d (.sc (.string to)), .d (.slc 1 d), .d (.slc 1 xs)]] [dB q nilV o a l, rB q nilV o false lr] (fun r st' => r = .d (.sc (.bool true)) ∧ ∃ y, clI ((Dk.mk q L o a l).call ⟨k, j, nm, to, d, xs⟩ js) y ∧ st' = clT ((Dk.mk q L o a l).call ⟨k, j, nm, to, d, xs⟩ js) y) := by
  have hL0 : L = [] := hfr
  have hH : SoundK Try.prog [] := by exact noK_ok
  have hB : SoundB Try.prog [] := by exact noB_ok
  refine FnD_cbv (T := fun _ => tabY [] [3, 5, 7, 9, 11, 13, 14, 16, 17]) (H := fun _ => []) (tabY_ok _ _) hH follows_mixed Try.func27 rfl Try.ntmps27 (by simp) fun A X W hA hX hW => ?_
  cbv
  by_cases hk1 : k = 1
  · have r1 : A.cmp .eql k 1 = true := by subst hA; exact decide_eq_true hk1
    cbv at r1
    obtain ⟨e, q9, L9, o9, a9, l9, hy⟩ : ∃ e q9 L9 o9 a9 l9, (Dk.mk q L o a l).app nm d = (e, ⟨q9, L9, o9, a9, l9⟩) := ⟨_, _, _, _, _, _, rfl⟩
    have z1 : A.cmp .eql e e = true := by subst hA; exact decide_eq_true rfl
    cbv at z1
    have hDc : (Dk.mk q L o a l).call ⟨k, j, nm, to, d, xs⟩ js = ⟨q9, L9, o9, a9, l9⟩ := by
      unfold Dk.call
      simp only [hk1, if_true]
      first
        | exact congrArg Prod.snd hy
        | (simp only [if_true, if_false]; exact congrArg Prod.snd hy)
        | (simp; rw [hy])
    obtain ⟨n9, hn9⟩ : ∃ z, z = L9.length := ⟨_, rfl⟩
    obtain ⟨c9, hc9⟩ : ∃ z, z = cellsF L9 := ⟨_, rfl⟩
    obtain ⟨lr9, hlr9⟩ : ∃ z, z = rlf a9 l9 := ⟨_, rfl⟩
    have hpl : ∀ κ, pullL κ c9 = c9 := fun κ => by rw [hc9, pullL_eq]; exact pull_rows κ _
    repeat first
      | (simp only [r1]; cbv)
      | refine And.intro (by
         subst hA hX hW
         clear hH
         first
           | exact trivial
           | exact rfl
           | (intro q; exact q)
           | (intro q; simpa [A0] using q)
           | (intro _; trivial)
           | (show Region.lexB _ _ = true; kernel_rfl)
           | (show turnsB _ = true; kernel_rfl)
           | assumption) ?_
    refine pauseL hX (s' := [(0, .ref 0 0 0), (1, .ref 1 0 0), (5, .ref 2 0 0)]) (st' := [dB q nilV o a l, rB q nilV o false lr, ⟨45, [.d (.sc (.int .i64 k)), .d (.sc (.int .i64 j)), .d (.sc (.string nm)), .d (.sc (.string to)), .d (.slc 1 d), .d (.slc 1 xs)], false, 0, true⟩]) (told_less (by simp [toldP, getS])) ?_
    by_cases h09 : L9 = []
    · have hwd := w_app q none o a l L nm d hfr hD hnm hd
      have hwr := w_rapp q none o a l lr L nm d hfr hD hs hlr hnm hd
      rw [hy] at hwd hwr
      have hB2 : SoundB Try.prog [oneB 11 [.ref 0 0 0, .d (.sc (.string nm)), .d (.slc 1 d)] [dB q nilV o a l, rB q nilV o false lr, ⟨45, [.d (.sc (.int .i64 k)), .d (.sc (.int .i64 j)), .d (.sc (.string nm)), .d (.sc (.string to)), .d (.slc 1 d), .d (.slc 1 xs)], false, 0, true⟩] (.d (.sc (.int .i64 e))) [dB q9 nilV o9 a9 l9, rB q nilV o false lr, ⟨45, [.d (.sc (.int .i64 k)), .d (.sc (.int .i64 j)), .d (.sc (.string nm)), .d (.sc (.string to)), .d (.slc 1 d), .d (.slc 1 xs)], false, 0, true⟩], oneB 37 [.ref 1 0 0, .d (.sc (.string nm)), .d (.slc 1 d)] [dB q9 nilV o9 a9 l9, rB q nilV o false lr, ⟨45, [.d (.sc (.int .i64 k)), .d (.sc (.int .i64 j)), .d (.sc (.string nm)), .d (.sc (.string to)), .d (.slc 1 d), .d (.slc 1 xs)], false, 0, true⟩] (.d (.sc (.int .i64 e))) [dB q9 nilV o9 a9 l9, rB q9 nilV o9 false lr9, ⟨45, [.d (.sc (.int .i64 k)), .d (.sc (.int .i64 j)), .d (.sc (.string nm)), .d (.sc (.string to)), .d (.slc 1 d), .d (.slc 1 xs)], false, 0, true⟩]] := by
        refine orB_ok (oneB_ok (fun K hK => ?_)) (orB_ok (oneB_ok (fun K hK => ?_)) noB_ok)
        · exact pD0e hwd (fun _ _ _ => rfl) rfl rfl h09 hK
        · exact pR0e (l := l) (a := a) hwr (fun _ _ _ => rfl) rfl rfl h09 hlr hlr9 hK
      (with_reducible refine regionB [11, 37] (T := fun _ => tabY [] []) (H := fun _ => []) (B := fun _ => [oneB 11 [.ref 0 0 0, .d (.sc (.string nm)), .d (.slc 1 d)] [dB q nilV o a l, rB q nilV o false lr, ⟨45, [.d (.sc (.int .i64 k)), .d (.sc (.int .i64 j)), .d (.sc (.string nm)), .d (.sc (.string to)), .d (.slc 1 d), .d (.slc 1 xs)], false, 0, true⟩] (.d (.sc (.int .i64 e))) [dB q9 nilV o9 a9 l9, rB q nilV o false lr, ⟨45, [.d (.sc (.int .i64 k)), .d (.sc (.int .i64 j)), .d (.sc (.string nm)), .d (.sc (.string to)), .d (.slc 1 d), .d (.slc 1 xs)], false, 0, true⟩], oneB 37 [.ref 1 0 0, .d (.sc (.string nm)), .d (.slc 1 d)] [dB q9 nilV o9 a9 l9, rB q nilV o false lr, ⟨45, [.d (.sc (.int .i64 k)), .d (.sc (.int .i64 j)), .d (.sc (.string nm)), .d (.sc (.string to)), .d (.slc 1 d), .d (.slc 1 xs)], false, 0, true⟩] (.d (.sc (.int .i64 e))) [dB q9 nilV o9 a9 l9, rB q9 nilV o9 false lr9, ⟨45, [.d (.sc (.int .i64 k)), .d (.sc (.int .i64 j)), .d (.sc (.string nm)), .d (.sc (.string to)), .d (.slc 1 d), .d (.slc 1 xs)], false, 0, true⟩]]) (A := A) (tabY_ok _ _) hH hB2 follows_mixed hA hX (by kernel_rfl) (by kernel_rfl) ?_) <;> cbv
      clear hB2 hwd hwr
      repeat first
        | (simp only [z1]; cbv)
        | refine And.intro (by
           subst hA hX hW
           clear hH
           first
             | exact trivial
             | exact rfl
             | (intro q; exact q)
             | (intro q; simpa [A0] using q)
             | (intro _; trivial)
             | (show Region.lexB _ _ = true; kernel_rfl)
             | (show turnsB _ = true; kernel_rfl)
             | assumption) ?_
      cbv
      subst hA hX hW
      refine ret_keep [0, 1] rfl ?_
      refine ⟨rfl, none, ?_, ?_⟩
      · rw [hDc]
        exact h09
      · rw [hDc]
        simp [clT, keepSt, pullBox, pullL, pullD, hpl, List.idxOf?, List.findIdx?_cons]
        try exact hlr9
    · have hwd := w_app q none o a l L nm d hfr hD hnm hd
      have hwr := w_rapp q none o a l lr L nm d hfr hD hs hlr hnm hd
      rw [hy] at hwd hwr
      have hB2 : SoundB Try.prog [oneB 11 [.ref 0 0 0, .d (.sc (.string nm)), .d (.slc 1 d)] [dB q nilV o a l, rB q nilV o false lr, ⟨45, [.d (.sc (.int .i64 k)), .d (.sc (.int .i64 j)), .d (.sc (.string nm)), .d (.sc (.string to)), .d (.slc 1 d), .d (.slc 1 xs)], false, 0, true⟩] (.d (.sc (.int .i64 e))) [dB q9 (.view 3 3 9 0 n9) o9 a9 l9, rB q nilV o false lr, ⟨45, [.d (.sc (.int .i64 k)), .d (.sc (.int .i64 j)), .d (.sc (.string nm)), .d (.sc (.string to)), .d (.slc 1 d), .d (.slc 1 xs)], false, 0, true⟩, fB c9 9], oneB 37 [.ref 1 0 0, .d (.sc (.string nm)), .d (.slc 1 d)] [dB q9 (.view 3 3 9 0 n9) o9 a9 l9, rB q nilV o false lr, ⟨45, [.d (.sc (.int .i64 k)), .d (.sc (.int .i64 j)), .d (.sc (.string nm)), .d (.sc (.string to)), .d (.slc 1 d), .d (.slc 1 xs)], false, 0, true⟩, fB c9 9] (.d (.sc (.int .i64 e))) [dB q9 (.view 3 3 9 0 n9) o9 a9 l9, rB q9 (.view 3 4 9 0 n9) o9 false lr9, ⟨45, [.d (.sc (.int .i64 k)), .d (.sc (.int .i64 j)), .d (.sc (.string nm)), .d (.sc (.string to)), .d (.slc 1 d), .d (.slc 1 xs)], false, 0, true⟩, fB c9 9, gB c9 9]] := by
        refine orB_ok (oneB_ok (fun K hK => ?_)) (orB_ok (oneB_ok (fun K hK => ?_)) noB_ok)
        · exact pD0s hwd (fun _ _ _ => rfl) rfl rfl h09 hn9 hc9 hK
        · exact pR0s (l := l) (a := a) hwr (fun _ _ _ => rfl) rfl rfl h09 hn9 hc9 hlr hlr9 hK
      (with_reducible refine regionB [11, 37] (T := fun _ => tabY [] []) (H := fun _ => []) (B := fun _ => [oneB 11 [.ref 0 0 0, .d (.sc (.string nm)), .d (.slc 1 d)] [dB q nilV o a l, rB q nilV o false lr, ⟨45, [.d (.sc (.int .i64 k)), .d (.sc (.int .i64 j)), .d (.sc (.string nm)), .d (.sc (.string to)), .d (.slc 1 d), .d (.slc 1 xs)], false, 0, true⟩] (.d (.sc (.int .i64 e))) [dB q9 (.view 3 3 9 0 n9) o9 a9 l9, rB q nilV o false lr, ⟨45, [.d (.sc (.int .i64 k)), .d (.sc (.int .i64 j)), .d (.sc (.string nm)), .d (.sc (.string to)), .d (.slc 1 d), .d (.slc 1 xs)], false, 0, true⟩, fB c9 9], oneB 37 [.ref 1 0 0, .d (.sc (.string nm)), .d (.slc 1 d)] [dB q9 (.view 3 3 9 0 n9) o9 a9 l9, rB q nilV o false lr, ⟨45, [.d (.sc (.int .i64 k)), .d (.sc (.int .i64 j)), .d (.sc (.string nm)), .d (.sc (.string to)), .d (.slc 1 d), .d (.slc 1 xs)], false, 0, true⟩, fB c9 9] (.d (.sc (.int .i64 e))) [dB q9 (.view 3 3 9 0 n9) o9 a9 l9, rB q9 (.view 3 4 9 0 n9) o9 false lr9, ⟨45, [.d (.sc (.int .i64 k)), .d (.sc (.int .i64 j)), .d (.sc (.string nm)), .d (.sc (.string to)), .d (.slc 1 d), .d (.slc 1 xs)], false, 0, true⟩, fB c9 9, gB c9 9]]) (A := A) (tabY_ok _ _) hH hB2 follows_mixed hA hX (by kernel_rfl) (by kernel_rfl) ?_) <;> cbv
      clear hB2 hwd hwr
      repeat first
        | (simp only [z1]; cbv)
        | refine And.intro (by
           subst hA hX hW
           clear hH
           first
             | exact trivial
             | exact rfl
             | (intro q; exact q)
             | (intro q; simpa [A0] using q)
             | (intro _; trivial)
             | (show Region.lexB _ _ = true; kernel_rfl)
             | (show turnsB _ = true; kernel_rfl)
             | assumption) ?_
      cbv
      subst hA hX hW
      refine ret_keep [0, 1, 3, 4] rfl ?_
      refine ⟨rfl, some (9, 9, n9, c9), ?_, ?_⟩
      · rw [hDc]
        exact ⟨hc9, hn9⟩
      · rw [hDc]
        simp [clT, keepSt, pullBox, pullL, pullD, hpl, List.idxOf?, List.findIdx?_cons]
        try exact hlr9
  have r1 : A.cmp .eql k 1 = false := by subst hA; exact decide_eq_false hk1
  cbv at r1
  by_cases hk2 : k = 2
  · have r2 : A.cmp .eql k 2 = true := by subst hA; exact decide_eq_true hk2
    cbv at r2
    obtain ⟨e, q9, L9, o9, a9, l9, hy⟩ : ∃ e q9 L9 o9 a9 l9, (Dk.mk q L o a l).sync nm = (e, ⟨q9, L9, o9, a9, l9⟩) := ⟨_, _, _, _, _, _, rfl⟩
    have z1 : A.cmp .eql e e = true := by subst hA; exact decide_eq_true rfl
    cbv at z1
    have hDc : (Dk.mk q L o a l).call ⟨k, j, nm, to, d, xs⟩ js = ⟨q9, L9, o9, a9, l9⟩ := by
      unfold Dk.call
      simp only [hk2, (by decide : ¬ ((2 : Int) = 1))]
      first
        | exact congrArg Prod.snd hy
        | (simp only [if_true, if_false]; exact congrArg Prod.snd hy)
        | (simp; rw [hy])
    obtain ⟨n9, hn9⟩ : ∃ z, z = L9.length := ⟨_, rfl⟩
    obtain ⟨c9, hc9⟩ : ∃ z, z = cellsF L9 := ⟨_, rfl⟩
    obtain ⟨lr9, hlr9⟩ : ∃ z, z = rlf a9 l9 := ⟨_, rfl⟩
    have hpl : ∀ κ, pullL κ c9 = c9 := fun κ => by rw [hc9, pullL_eq]; exact pull_rows κ _
    repeat first
      | (simp only [r1, r2]; cbv)
      | refine And.intro (by
         subst hA hX hW
         clear hH
         first
           | exact trivial
           | exact rfl
           | (intro q; exact q)
           | (intro q; simpa [A0] using q)
           | (intro _; trivial)
           | (show Region.lexB _ _ = true; kernel_rfl)
           | (show turnsB _ = true; kernel_rfl)
           | assumption) ?_
    refine pauseL hX (s' := [(0, .ref 0 0 0), (1, .ref 1 0 0), (5, .ref 2 0 0)]) (st' := [dB q nilV o a l, rB q nilV o false lr, ⟨45, [.d (.sc (.int .i64 k)), .d (.sc (.int .i64 j)), .d (.sc (.string nm)), .d (.sc (.string to)), .d (.slc 1 d), .d (.slc 1 xs)], false, 0, true⟩]) (told_less (by simp [toldP, getS])) ?_
    by_cases h09 : L9 = []
    · have hwd := w_sync q none o a l L nm hfr hD
      have hwr := w_rsync q none o a l lr L nm hfr hD hs hlr
      rw [hy] at hwd hwr
      have hB2 : SoundB Try.prog [oneB 12 [.ref 0 0 0, .d (.sc (.string nm))] [dB q nilV o a l, rB q nilV o false lr, ⟨45, [.d (.sc (.int .i64 k)), .d (.sc (.int .i64 j)), .d (.sc (.string nm)), .d (.sc (.string to)), .d (.slc 1 d), .d (.slc 1 xs)], false, 0, true⟩] (.d (.sc (.int .i64 e))) [dB q9 nilV o9 a9 l9, rB q nilV o false lr, ⟨45, [.d (.sc (.int .i64 k)), .d (.sc (.int .i64 j)), .d (.sc (.string nm)), .d (.sc (.string to)), .d (.slc 1 d), .d (.slc 1 xs)], false, 0, true⟩], oneB 38 [.ref 1 0 0, .d (.sc (.string nm))] [dB q9 nilV o9 a9 l9, rB q nilV o false lr, ⟨45, [.d (.sc (.int .i64 k)), .d (.sc (.int .i64 j)), .d (.sc (.string nm)), .d (.sc (.string to)), .d (.slc 1 d), .d (.slc 1 xs)], false, 0, true⟩] (.d (.sc (.int .i64 e))) [dB q9 nilV o9 a9 l9, rB q9 nilV o9 false lr9, ⟨45, [.d (.sc (.int .i64 k)), .d (.sc (.int .i64 j)), .d (.sc (.string nm)), .d (.sc (.string to)), .d (.slc 1 d), .d (.slc 1 xs)], false, 0, true⟩]] := by
        refine orB_ok (oneB_ok (fun K hK => ?_)) (orB_ok (oneB_ok (fun K hK => ?_)) noB_ok)
        · exact pD0e hwd (fun _ _ _ => rfl) rfl rfl h09 hK
        · exact pR0e (l := l) (a := a) hwr (fun _ _ _ => rfl) rfl rfl h09 hlr hlr9 hK
      (with_reducible refine regionB [12, 38] (T := fun _ => tabY [] []) (H := fun _ => []) (B := fun _ => [oneB 12 [.ref 0 0 0, .d (.sc (.string nm))] [dB q nilV o a l, rB q nilV o false lr, ⟨45, [.d (.sc (.int .i64 k)), .d (.sc (.int .i64 j)), .d (.sc (.string nm)), .d (.sc (.string to)), .d (.slc 1 d), .d (.slc 1 xs)], false, 0, true⟩] (.d (.sc (.int .i64 e))) [dB q9 nilV o9 a9 l9, rB q nilV o false lr, ⟨45, [.d (.sc (.int .i64 k)), .d (.sc (.int .i64 j)), .d (.sc (.string nm)), .d (.sc (.string to)), .d (.slc 1 d), .d (.slc 1 xs)], false, 0, true⟩], oneB 38 [.ref 1 0 0, .d (.sc (.string nm))] [dB q9 nilV o9 a9 l9, rB q nilV o false lr, ⟨45, [.d (.sc (.int .i64 k)), .d (.sc (.int .i64 j)), .d (.sc (.string nm)), .d (.sc (.string to)), .d (.slc 1 d), .d (.slc 1 xs)], false, 0, true⟩] (.d (.sc (.int .i64 e))) [dB q9 nilV o9 a9 l9, rB q9 nilV o9 false lr9, ⟨45, [.d (.sc (.int .i64 k)), .d (.sc (.int .i64 j)), .d (.sc (.string nm)), .d (.sc (.string to)), .d (.slc 1 d), .d (.slc 1 xs)], false, 0, true⟩]]) (A := A) (tabY_ok _ _) hH hB2 follows_mixed hA hX (by kernel_rfl) (by kernel_rfl) ?_) <;> cbv
      clear hB2 hwd hwr
      repeat first
        | (simp only [z1]; cbv)
        | refine And.intro (by
           subst hA hX hW
           clear hH
           first
             | exact trivial
             | exact rfl
             | (intro q; exact q)
             | (intro q; simpa [A0] using q)
             | (intro _; trivial)
             | (show Region.lexB _ _ = true; kernel_rfl)
             | (show turnsB _ = true; kernel_rfl)
             | assumption) ?_
      cbv
      subst hA hX hW
      refine ret_keep [0, 1] rfl ?_
      refine ⟨rfl, none, ?_, ?_⟩
      · rw [hDc]
        exact h09
      · rw [hDc]
        simp [clT, keepSt, pullBox, pullL, pullD, hpl, List.idxOf?, List.findIdx?_cons]
        try exact hlr9
    · have hwd := w_sync q none o a l L nm hfr hD
      have hwr := w_rsync q none o a l lr L nm hfr hD hs hlr
      rw [hy] at hwd hwr
      have hB2 : SoundB Try.prog [oneB 12 [.ref 0 0 0, .d (.sc (.string nm))] [dB q nilV o a l, rB q nilV o false lr, ⟨45, [.d (.sc (.int .i64 k)), .d (.sc (.int .i64 j)), .d (.sc (.string nm)), .d (.sc (.string to)), .d (.slc 1 d), .d (.slc 1 xs)], false, 0, true⟩] (.d (.sc (.int .i64 e))) [dB q9 (.view 3 3 9 0 n9) o9 a9 l9, rB q nilV o false lr, ⟨45, [.d (.sc (.int .i64 k)), .d (.sc (.int .i64 j)), .d (.sc (.string nm)), .d (.sc (.string to)), .d (.slc 1 d), .d (.slc 1 xs)], false, 0, true⟩, fB c9 9], oneB 38 [.ref 1 0 0, .d (.sc (.string nm))] [dB q9 (.view 3 3 9 0 n9) o9 a9 l9, rB q nilV o false lr, ⟨45, [.d (.sc (.int .i64 k)), .d (.sc (.int .i64 j)), .d (.sc (.string nm)), .d (.sc (.string to)), .d (.slc 1 d), .d (.slc 1 xs)], false, 0, true⟩, fB c9 9] (.d (.sc (.int .i64 e))) [dB q9 (.view 3 3 9 0 n9) o9 a9 l9, rB q9 (.view 3 4 9 0 n9) o9 false lr9, ⟨45, [.d (.sc (.int .i64 k)), .d (.sc (.int .i64 j)), .d (.sc (.string nm)), .d (.sc (.string to)), .d (.slc 1 d), .d (.slc 1 xs)], false, 0, true⟩, fB c9 9, gB c9 9]] := by
        refine orB_ok (oneB_ok (fun K hK => ?_)) (orB_ok (oneB_ok (fun K hK => ?_)) noB_ok)
        · exact pD0s hwd (fun _ _ _ => rfl) rfl rfl h09 hn9 hc9 hK
        · exact pR0s (l := l) (a := a) hwr (fun _ _ _ => rfl) rfl rfl h09 hn9 hc9 hlr hlr9 hK
      (with_reducible refine regionB [12, 38] (T := fun _ => tabY [] []) (H := fun _ => []) (B := fun _ => [oneB 12 [.ref 0 0 0, .d (.sc (.string nm))] [dB q nilV o a l, rB q nilV o false lr, ⟨45, [.d (.sc (.int .i64 k)), .d (.sc (.int .i64 j)), .d (.sc (.string nm)), .d (.sc (.string to)), .d (.slc 1 d), .d (.slc 1 xs)], false, 0, true⟩] (.d (.sc (.int .i64 e))) [dB q9 (.view 3 3 9 0 n9) o9 a9 l9, rB q nilV o false lr, ⟨45, [.d (.sc (.int .i64 k)), .d (.sc (.int .i64 j)), .d (.sc (.string nm)), .d (.sc (.string to)), .d (.slc 1 d), .d (.slc 1 xs)], false, 0, true⟩, fB c9 9], oneB 38 [.ref 1 0 0, .d (.sc (.string nm))] [dB q9 (.view 3 3 9 0 n9) o9 a9 l9, rB q nilV o false lr, ⟨45, [.d (.sc (.int .i64 k)), .d (.sc (.int .i64 j)), .d (.sc (.string nm)), .d (.sc (.string to)), .d (.slc 1 d), .d (.slc 1 xs)], false, 0, true⟩, fB c9 9] (.d (.sc (.int .i64 e))) [dB q9 (.view 3 3 9 0 n9) o9 a9 l9, rB q9 (.view 3 4 9 0 n9) o9 false lr9, ⟨45, [.d (.sc (.int .i64 k)), .d (.sc (.int .i64 j)), .d (.sc (.string nm)), .d (.sc (.string to)), .d (.slc 1 d), .d (.slc 1 xs)], false, 0, true⟩, fB c9 9, gB c9 9]]) (A := A) (tabY_ok _ _) hH hB2 follows_mixed hA hX (by kernel_rfl) (by kernel_rfl) ?_) <;> cbv
      clear hB2 hwd hwr
      repeat first
        | (simp only [z1]; cbv)
        | refine And.intro (by
           subst hA hX hW
           clear hH
           first
             | exact trivial
             | exact rfl
             | (intro q; exact q)
             | (intro q; simpa [A0] using q)
             | (intro _; trivial)
             | (show Region.lexB _ _ = true; kernel_rfl)
             | (show turnsB _ = true; kernel_rfl)
             | assumption) ?_
      cbv
      subst hA hX hW
      refine ret_keep [0, 1, 3, 4] rfl ?_
      refine ⟨rfl, some (9, 9, n9, c9), ?_, ?_⟩
      · rw [hDc]
        exact ⟨hc9, hn9⟩
      · rw [hDc]
        simp [clT, keepSt, pullBox, pullL, pullD, hpl, List.idxOf?, List.findIdx?_cons]
        try exact hlr9
  have r2 : A.cmp .eql k 2 = false := by subst hA; exact decide_eq_false hk2
  cbv at r2
  by_cases hk3 : k = 3
  · have r3 : A.cmp .eql k 3 = true := by subst hA; exact decide_eq_true hk3
    cbv at r3
    obtain ⟨e, q9, L9, o9, a9, l9, hy⟩ : ∃ e q9 L9 o9 a9 l9, (Dk.mk q L o a l).cut nm j = (e, ⟨q9, L9, o9, a9, l9⟩) := ⟨_, _, _, _, _, _, rfl⟩
    have z1 : A.cmp .eql e e = true := by subst hA; exact decide_eq_true rfl
    cbv at z1
    have hDc : (Dk.mk q L o a l).call ⟨k, j, nm, to, d, xs⟩ js = ⟨q9, L9, o9, a9, l9⟩ := by
      unfold Dk.call
      simp only [hk3, (by decide : ¬ ((3 : Int) = 1)), (by decide : ¬ ((3 : Int) = 2))]
      first
        | exact congrArg Prod.snd hy
        | (simp only [if_true, if_false]; exact congrArg Prod.snd hy)
        | (simp; rw [hy])
    obtain ⟨n9, hn9⟩ : ∃ z, z = L9.length := ⟨_, rfl⟩
    obtain ⟨c9, hc9⟩ : ∃ z, z = cellsF L9 := ⟨_, rfl⟩
    obtain ⟨lr9, hlr9⟩ : ∃ z, z = rlf a9 l9 := ⟨_, rfl⟩
    have hpl : ∀ κ, pullL κ c9 = c9 := fun κ => by rw [hc9, pullL_eq]; exact pull_rows κ _
    repeat first
      | (simp only [r1, r2, r3]; cbv)
      | refine And.intro (by
         subst hA hX hW
         clear hH
         first
           | exact trivial
           | exact rfl
           | (intro q; exact q)
           | (intro q; simpa [A0] using q)
           | (intro _; trivial)
           | (show Region.lexB _ _ = true; kernel_rfl)
           | (show turnsB _ = true; kernel_rfl)
           | assumption) ?_
    refine pauseL hX (s' := [(0, .ref 0 0 0), (1, .ref 1 0 0), (5, .ref 2 0 0)]) (st' := [dB q nilV o a l, rB q nilV o false lr, ⟨45, [.d (.sc (.int .i64 k)), .d (.sc (.int .i64 j)), .d (.sc (.string nm)), .d (.sc (.string to)), .d (.slc 1 d), .d (.slc 1 xs)], false, 0, true⟩]) (told_less (by simp [toldP, getS])) ?_
    by_cases h09 : L9 = []
    · have hwd := w_cut q none o a l L nm j hfr hD
      have hwr := w_rcut q none o a l lr L nm j hfr hD hs hlr
      rw [hy] at hwd hwr
      have hB2 : SoundB Try.prog [oneB 39 [.ref 0 0 0, .d (.sc (.string nm)), .d (.sc (.int .i64 j))] [dB q nilV o a l, rB q nilV o false lr, ⟨45, [.d (.sc (.int .i64 k)), .d (.sc (.int .i64 j)), .d (.sc (.string nm)), .d (.sc (.string to)), .d (.slc 1 d), .d (.slc 1 xs)], false, 0, true⟩] (.d (.sc (.int .i64 e))) [dB q9 nilV o9 a9 l9, rB q nilV o false lr, ⟨45, [.d (.sc (.int .i64 k)), .d (.sc (.int .i64 j)), .d (.sc (.string nm)), .d (.sc (.string to)), .d (.slc 1 d), .d (.slc 1 xs)], false, 0, true⟩], oneB 40 [.ref 1 0 0, .d (.sc (.string nm)), .d (.sc (.int .i64 j))] [dB q9 nilV o9 a9 l9, rB q nilV o false lr, ⟨45, [.d (.sc (.int .i64 k)), .d (.sc (.int .i64 j)), .d (.sc (.string nm)), .d (.sc (.string to)), .d (.slc 1 d), .d (.slc 1 xs)], false, 0, true⟩] (.d (.sc (.int .i64 e))) [dB q9 nilV o9 a9 l9, rB q9 nilV o9 false lr9, ⟨45, [.d (.sc (.int .i64 k)), .d (.sc (.int .i64 j)), .d (.sc (.string nm)), .d (.sc (.string to)), .d (.slc 1 d), .d (.slc 1 xs)], false, 0, true⟩]] := by
        refine orB_ok (oneB_ok (fun K hK => ?_)) (orB_ok (oneB_ok (fun K hK => ?_)) noB_ok)
        · exact pD0e hwd (fun _ _ _ => rfl) rfl rfl h09 hK
        · exact pR0e (l := l) (a := a) hwr (fun _ _ _ => rfl) rfl rfl h09 hlr hlr9 hK
      (with_reducible refine regionB [39, 40] (T := fun _ => tabY [] []) (H := fun _ => []) (B := fun _ => [oneB 39 [.ref 0 0 0, .d (.sc (.string nm)), .d (.sc (.int .i64 j))] [dB q nilV o a l, rB q nilV o false lr, ⟨45, [.d (.sc (.int .i64 k)), .d (.sc (.int .i64 j)), .d (.sc (.string nm)), .d (.sc (.string to)), .d (.slc 1 d), .d (.slc 1 xs)], false, 0, true⟩] (.d (.sc (.int .i64 e))) [dB q9 nilV o9 a9 l9, rB q nilV o false lr, ⟨45, [.d (.sc (.int .i64 k)), .d (.sc (.int .i64 j)), .d (.sc (.string nm)), .d (.sc (.string to)), .d (.slc 1 d), .d (.slc 1 xs)], false, 0, true⟩], oneB 40 [.ref 1 0 0, .d (.sc (.string nm)), .d (.sc (.int .i64 j))] [dB q9 nilV o9 a9 l9, rB q nilV o false lr, ⟨45, [.d (.sc (.int .i64 k)), .d (.sc (.int .i64 j)), .d (.sc (.string nm)), .d (.sc (.string to)), .d (.slc 1 d), .d (.slc 1 xs)], false, 0, true⟩] (.d (.sc (.int .i64 e))) [dB q9 nilV o9 a9 l9, rB q9 nilV o9 false lr9, ⟨45, [.d (.sc (.int .i64 k)), .d (.sc (.int .i64 j)), .d (.sc (.string nm)), .d (.sc (.string to)), .d (.slc 1 d), .d (.slc 1 xs)], false, 0, true⟩]]) (A := A) (tabY_ok _ _) hH hB2 follows_mixed hA hX (by kernel_rfl) (by kernel_rfl) ?_) <;> cbv
      clear hB2 hwd hwr
      repeat first
        | (simp only [z1]; cbv)
        | refine And.intro (by
           subst hA hX hW
           clear hH
           first
             | exact trivial
             | exact rfl
             | (intro q; exact q)
             | (intro q; simpa [A0] using q)
             | (intro _; trivial)
             | (show Region.lexB _ _ = true; kernel_rfl)
             | (show turnsB _ = true; kernel_rfl)
             | assumption) ?_
      cbv
      subst hA hX hW
      refine ret_keep [0, 1] rfl ?_
      refine ⟨rfl, none, ?_, ?_⟩
      · rw [hDc]
        exact h09
      · rw [hDc]
        simp [clT, keepSt, pullBox, pullL, pullD, hpl, List.idxOf?, List.findIdx?_cons]
        try exact hlr9
    · have hwd := w_cut q none o a l L nm j hfr hD
      have hwr := w_rcut q none o a l lr L nm j hfr hD hs hlr
      rw [hy] at hwd hwr
      have hB2 : SoundB Try.prog [oneB 39 [.ref 0 0 0, .d (.sc (.string nm)), .d (.sc (.int .i64 j))] [dB q nilV o a l, rB q nilV o false lr, ⟨45, [.d (.sc (.int .i64 k)), .d (.sc (.int .i64 j)), .d (.sc (.string nm)), .d (.sc (.string to)), .d (.slc 1 d), .d (.slc 1 xs)], false, 0, true⟩] (.d (.sc (.int .i64 e))) [dB q9 (.view 3 3 9 0 n9) o9 a9 l9, rB q nilV o false lr, ⟨45, [.d (.sc (.int .i64 k)), .d (.sc (.int .i64 j)), .d (.sc (.string nm)), .d (.sc (.string to)), .d (.slc 1 d), .d (.slc 1 xs)], false, 0, true⟩, fB c9 9], oneB 40 [.ref 1 0 0, .d (.sc (.string nm)), .d (.sc (.int .i64 j))] [dB q9 (.view 3 3 9 0 n9) o9 a9 l9, rB q nilV o false lr, ⟨45, [.d (.sc (.int .i64 k)), .d (.sc (.int .i64 j)), .d (.sc (.string nm)), .d (.sc (.string to)), .d (.slc 1 d), .d (.slc 1 xs)], false, 0, true⟩, fB c9 9] (.d (.sc (.int .i64 e))) [dB q9 (.view 3 3 9 0 n9) o9 a9 l9, rB q9 (.view 3 4 9 0 n9) o9 false lr9, ⟨45, [.d (.sc (.int .i64 k)), .d (.sc (.int .i64 j)), .d (.sc (.string nm)), .d (.sc (.string to)), .d (.slc 1 d), .d (.slc 1 xs)], false, 0, true⟩, fB c9 9, gB c9 9]] := by
        refine orB_ok (oneB_ok (fun K hK => ?_)) (orB_ok (oneB_ok (fun K hK => ?_)) noB_ok)
        · exact pD0s hwd (fun _ _ _ => rfl) rfl rfl h09 hn9 hc9 hK
        · exact pR0s (l := l) (a := a) hwr (fun _ _ _ => rfl) rfl rfl h09 hn9 hc9 hlr hlr9 hK
      (with_reducible refine regionB [39, 40] (T := fun _ => tabY [] []) (H := fun _ => []) (B := fun _ => [oneB 39 [.ref 0 0 0, .d (.sc (.string nm)), .d (.sc (.int .i64 j))] [dB q nilV o a l, rB q nilV o false lr, ⟨45, [.d (.sc (.int .i64 k)), .d (.sc (.int .i64 j)), .d (.sc (.string nm)), .d (.sc (.string to)), .d (.slc 1 d), .d (.slc 1 xs)], false, 0, true⟩] (.d (.sc (.int .i64 e))) [dB q9 (.view 3 3 9 0 n9) o9 a9 l9, rB q nilV o false lr, ⟨45, [.d (.sc (.int .i64 k)), .d (.sc (.int .i64 j)), .d (.sc (.string nm)), .d (.sc (.string to)), .d (.slc 1 d), .d (.slc 1 xs)], false, 0, true⟩, fB c9 9], oneB 40 [.ref 1 0 0, .d (.sc (.string nm)), .d (.sc (.int .i64 j))] [dB q9 (.view 3 3 9 0 n9) o9 a9 l9, rB q nilV o false lr, ⟨45, [.d (.sc (.int .i64 k)), .d (.sc (.int .i64 j)), .d (.sc (.string nm)), .d (.sc (.string to)), .d (.slc 1 d), .d (.slc 1 xs)], false, 0, true⟩, fB c9 9] (.d (.sc (.int .i64 e))) [dB q9 (.view 3 3 9 0 n9) o9 a9 l9, rB q9 (.view 3 4 9 0 n9) o9 false lr9, ⟨45, [.d (.sc (.int .i64 k)), .d (.sc (.int .i64 j)), .d (.sc (.string nm)), .d (.sc (.string to)), .d (.slc 1 d), .d (.slc 1 xs)], false, 0, true⟩, fB c9 9, gB c9 9]]) (A := A) (tabY_ok _ _) hH hB2 follows_mixed hA hX (by kernel_rfl) (by kernel_rfl) ?_) <;> cbv
      clear hB2 hwd hwr
      repeat first
        | (simp only [z1]; cbv)
        | refine And.intro (by
           subst hA hX hW
           clear hH
           first
             | exact trivial
             | exact rfl
             | (intro q; exact q)
             | (intro q; simpa [A0] using q)
             | (intro _; trivial)
             | (show Region.lexB _ _ = true; kernel_rfl)
             | (show turnsB _ = true; kernel_rfl)
             | assumption) ?_
      cbv
      subst hA hX hW
      refine ret_keep [0, 1, 3, 4] rfl ?_
      refine ⟨rfl, some (9, 9, n9, c9), ?_, ?_⟩
      · rw [hDc]
        exact ⟨hc9, hn9⟩
      · rw [hDc]
        simp [clT, keepSt, pullBox, pullL, pullD, hpl, List.idxOf?, List.findIdx?_cons]
        try exact hlr9
  have r3 : A.cmp .eql k 3 = false := by subst hA; exact decide_eq_false hk3
  cbv at r3
  by_cases hk4 : k = 4
  · have r4 : A.cmp .eql k 4 = true := by subst hA; exact decide_eq_true hk4
    cbv at r4
    obtain ⟨e, q9, L9, o9, a9, l9, hy⟩ : ∃ e q9 L9 o9 a9 l9, (Dk.mk q L o a l).ren nm to = (e, ⟨q9, L9, o9, a9, l9⟩) := ⟨_, _, _, _, _, _, rfl⟩
    have z1 : A.cmp .eql e e = true := by subst hA; exact decide_eq_true rfl
    cbv at z1
    have hDc : (Dk.mk q L o a l).call ⟨k, j, nm, to, d, xs⟩ js = ⟨q9, L9, o9, a9, l9⟩ := by
      unfold Dk.call
      simp only [hk4, (by decide : ¬ ((4 : Int) = 1)), (by decide : ¬ ((4 : Int) = 2)), (by decide : ¬ ((4 : Int) = 3))]
      first
        | exact congrArg Prod.snd hy
        | (simp only [if_true, if_false]; exact congrArg Prod.snd hy)
        | (simp; rw [hy])
    obtain ⟨n9, hn9⟩ : ∃ z, z = L9.length := ⟨_, rfl⟩
    obtain ⟨c9, hc9⟩ : ∃ z, z = cellsF L9 := ⟨_, rfl⟩
    obtain ⟨lr9, hlr9⟩ : ∃ z, z = rlf a9 l9 := ⟨_, rfl⟩
    have hpl : ∀ κ, pullL κ c9 = c9 := fun κ => by rw [hc9, pullL_eq]; exact pull_rows κ _
    repeat first
      | (simp only [r1, r2, r3, r4]; cbv)
      | refine And.intro (by
         subst hA hX hW
         clear hH
         first
           | exact trivial
           | exact rfl
           | (intro q; exact q)
           | (intro q; simpa [A0] using q)
           | (intro _; trivial)
           | (show Region.lexB _ _ = true; kernel_rfl)
           | (show turnsB _ = true; kernel_rfl)
           | assumption) ?_
    refine pauseL hX (s' := [(0, .ref 0 0 0), (1, .ref 1 0 0), (5, .ref 2 0 0)]) (st' := [dB q nilV o a l, rB q nilV o false lr, ⟨45, [.d (.sc (.int .i64 k)), .d (.sc (.int .i64 j)), .d (.sc (.string nm)), .d (.sc (.string to)), .d (.slc 1 d), .d (.slc 1 xs)], false, 0, true⟩]) (told_less (by simp [toldP, getS])) ?_
    by_cases h09 : L9 = []
    · have hwd := w_ren q none o a l L nm to hfr hD hto
      have hwr := w_rren q none o a l lr L nm to hfr hD hs hlr hto
      rw [hy] at hwd hwr
      have hB2 : SoundB Try.prog [oneB 23 [.ref 0 0 0, .d (.sc (.string nm)), .d (.sc (.string to))] [dB q nilV o a l, rB q nilV o false lr, ⟨45, [.d (.sc (.int .i64 k)), .d (.sc (.int .i64 j)), .d (.sc (.string nm)), .d (.sc (.string to)), .d (.slc 1 d), .d (.slc 1 xs)], false, 0, true⟩] (.d (.sc (.int .i64 e))) [dB q9 nilV o9 a9 l9, rB q nilV o false lr, ⟨45, [.d (.sc (.int .i64 k)), .d (.sc (.int .i64 j)), .d (.sc (.string nm)), .d (.sc (.string to)), .d (.slc 1 d), .d (.slc 1 xs)], false, 0, true⟩], oneB 41 [.ref 1 0 0, .d (.sc (.string nm)), .d (.sc (.string to))] [dB q9 nilV o9 a9 l9, rB q nilV o false lr, ⟨45, [.d (.sc (.int .i64 k)), .d (.sc (.int .i64 j)), .d (.sc (.string nm)), .d (.sc (.string to)), .d (.slc 1 d), .d (.slc 1 xs)], false, 0, true⟩] (.d (.sc (.int .i64 e))) [dB q9 nilV o9 a9 l9, rB q9 nilV o9 false lr9, ⟨45, [.d (.sc (.int .i64 k)), .d (.sc (.int .i64 j)), .d (.sc (.string nm)), .d (.sc (.string to)), .d (.slc 1 d), .d (.slc 1 xs)], false, 0, true⟩]] := by
        refine orB_ok (oneB_ok (fun K hK => ?_)) (orB_ok (oneB_ok (fun K hK => ?_)) noB_ok)
        · exact pD0e hwd (fun _ _ _ => rfl) rfl rfl h09 hK
        · exact pR0e (l := l) (a := a) hwr (fun _ _ _ => rfl) rfl rfl h09 hlr hlr9 hK
      (with_reducible refine regionB [23, 41] (T := fun _ => tabY [] []) (H := fun _ => []) (B := fun _ => [oneB 23 [.ref 0 0 0, .d (.sc (.string nm)), .d (.sc (.string to))] [dB q nilV o a l, rB q nilV o false lr, ⟨45, [.d (.sc (.int .i64 k)), .d (.sc (.int .i64 j)), .d (.sc (.string nm)), .d (.sc (.string to)), .d (.slc 1 d), .d (.slc 1 xs)], false, 0, true⟩] (.d (.sc (.int .i64 e))) [dB q9 nilV o9 a9 l9, rB q nilV o false lr, ⟨45, [.d (.sc (.int .i64 k)), .d (.sc (.int .i64 j)), .d (.sc (.string nm)), .d (.sc (.string to)), .d (.slc 1 d), .d (.slc 1 xs)], false, 0, true⟩], oneB 41 [.ref 1 0 0, .d (.sc (.string nm)), .d (.sc (.string to))] [dB q9 nilV o9 a9 l9, rB q nilV o false lr, ⟨45, [.d (.sc (.int .i64 k)), .d (.sc (.int .i64 j)), .d (.sc (.string nm)), .d (.sc (.string to)), .d (.slc 1 d), .d (.slc 1 xs)], false, 0, true⟩] (.d (.sc (.int .i64 e))) [dB q9 nilV o9 a9 l9, rB q9 nilV o9 false lr9, ⟨45, [.d (.sc (.int .i64 k)), .d (.sc (.int .i64 j)), .d (.sc (.string nm)), .d (.sc (.string to)), .d (.slc 1 d), .d (.slc 1 xs)], false, 0, true⟩]]) (A := A) (tabY_ok _ _) hH hB2 follows_mixed hA hX (by kernel_rfl) (by kernel_rfl) ?_) <;> cbv
      clear hB2 hwd hwr
      repeat first
        | (simp only [z1]; cbv)
        | refine And.intro (by
           subst hA hX hW
           clear hH
           first
             | exact trivial
             | exact rfl
             | (intro q; exact q)
             | (intro q; simpa [A0] using q)
             | (intro _; trivial)
             | (show Region.lexB _ _ = true; kernel_rfl)
             | (show turnsB _ = true; kernel_rfl)
             | assumption) ?_
      cbv
      subst hA hX hW
      refine ret_keep [0, 1] rfl ?_
      refine ⟨rfl, none, ?_, ?_⟩
      · rw [hDc]
        exact h09
      · rw [hDc]
        simp [clT, keepSt, pullBox, pullL, pullD, hpl, List.idxOf?, List.findIdx?_cons]
        try exact hlr9
    · have hwd := w_ren q none o a l L nm to hfr hD hto
      have hwr := w_rren q none o a l lr L nm to hfr hD hs hlr hto
      rw [hy] at hwd hwr
      have hB2 : SoundB Try.prog [oneB 23 [.ref 0 0 0, .d (.sc (.string nm)), .d (.sc (.string to))] [dB q nilV o a l, rB q nilV o false lr, ⟨45, [.d (.sc (.int .i64 k)), .d (.sc (.int .i64 j)), .d (.sc (.string nm)), .d (.sc (.string to)), .d (.slc 1 d), .d (.slc 1 xs)], false, 0, true⟩] (.d (.sc (.int .i64 e))) [dB q9 (.view 3 3 9 0 n9) o9 a9 l9, rB q nilV o false lr, ⟨45, [.d (.sc (.int .i64 k)), .d (.sc (.int .i64 j)), .d (.sc (.string nm)), .d (.sc (.string to)), .d (.slc 1 d), .d (.slc 1 xs)], false, 0, true⟩, fB c9 9], oneB 41 [.ref 1 0 0, .d (.sc (.string nm)), .d (.sc (.string to))] [dB q9 (.view 3 3 9 0 n9) o9 a9 l9, rB q nilV o false lr, ⟨45, [.d (.sc (.int .i64 k)), .d (.sc (.int .i64 j)), .d (.sc (.string nm)), .d (.sc (.string to)), .d (.slc 1 d), .d (.slc 1 xs)], false, 0, true⟩, fB c9 9] (.d (.sc (.int .i64 e))) [dB q9 (.view 3 3 9 0 n9) o9 a9 l9, rB q9 (.view 3 4 9 0 n9) o9 false lr9, ⟨45, [.d (.sc (.int .i64 k)), .d (.sc (.int .i64 j)), .d (.sc (.string nm)), .d (.sc (.string to)), .d (.slc 1 d), .d (.slc 1 xs)], false, 0, true⟩, fB c9 9, gB c9 9]] := by
        refine orB_ok (oneB_ok (fun K hK => ?_)) (orB_ok (oneB_ok (fun K hK => ?_)) noB_ok)
        · exact pD0s hwd (fun _ _ _ => rfl) rfl rfl h09 hn9 hc9 hK
        · exact pR0s (l := l) (a := a) hwr (fun _ _ _ => rfl) rfl rfl h09 hn9 hc9 hlr hlr9 hK
      (with_reducible refine regionB [23, 41] (T := fun _ => tabY [] []) (H := fun _ => []) (B := fun _ => [oneB 23 [.ref 0 0 0, .d (.sc (.string nm)), .d (.sc (.string to))] [dB q nilV o a l, rB q nilV o false lr, ⟨45, [.d (.sc (.int .i64 k)), .d (.sc (.int .i64 j)), .d (.sc (.string nm)), .d (.sc (.string to)), .d (.slc 1 d), .d (.slc 1 xs)], false, 0, true⟩] (.d (.sc (.int .i64 e))) [dB q9 (.view 3 3 9 0 n9) o9 a9 l9, rB q nilV o false lr, ⟨45, [.d (.sc (.int .i64 k)), .d (.sc (.int .i64 j)), .d (.sc (.string nm)), .d (.sc (.string to)), .d (.slc 1 d), .d (.slc 1 xs)], false, 0, true⟩, fB c9 9], oneB 41 [.ref 1 0 0, .d (.sc (.string nm)), .d (.sc (.string to))] [dB q9 (.view 3 3 9 0 n9) o9 a9 l9, rB q nilV o false lr, ⟨45, [.d (.sc (.int .i64 k)), .d (.sc (.int .i64 j)), .d (.sc (.string nm)), .d (.sc (.string to)), .d (.slc 1 d), .d (.slc 1 xs)], false, 0, true⟩, fB c9 9] (.d (.sc (.int .i64 e))) [dB q9 (.view 3 3 9 0 n9) o9 a9 l9, rB q9 (.view 3 4 9 0 n9) o9 false lr9, ⟨45, [.d (.sc (.int .i64 k)), .d (.sc (.int .i64 j)), .d (.sc (.string nm)), .d (.sc (.string to)), .d (.slc 1 d), .d (.slc 1 xs)], false, 0, true⟩, fB c9 9, gB c9 9]]) (A := A) (tabY_ok _ _) hH hB2 follows_mixed hA hX (by kernel_rfl) (by kernel_rfl) ?_) <;> cbv
      clear hB2 hwd hwr
      repeat first
        | (simp only [z1]; cbv)
        | refine And.intro (by
           subst hA hX hW
           clear hH
           first
             | exact trivial
             | exact rfl
             | (intro q; exact q)
             | (intro q; simpa [A0] using q)
             | (intro _; trivial)
             | (show Region.lexB _ _ = true; kernel_rfl)
             | (show turnsB _ = true; kernel_rfl)
             | assumption) ?_
      cbv
      subst hA hX hW
      refine ret_keep [0, 1, 3, 4] rfl ?_
      refine ⟨rfl, some (9, 9, n9, c9), ?_, ?_⟩
      · rw [hDc]
        exact ⟨hc9, hn9⟩
      · rw [hDc]
        simp [clT, keepSt, pullBox, pullL, pullD, hpl, List.idxOf?, List.findIdx?_cons]
        try exact hlr9
  have r4 : A.cmp .eql k 4 = false := by subst hA; exact decide_eq_false hk4
  cbv at r4
  by_cases hk5 : k = 5
  · have r5 : A.cmp .eql k 5 = true := by subst hA; exact decide_eq_true hk5
    cbv at r5
    obtain ⟨e, q9, L9, o9, a9, l9, hy⟩ : ∃ e q9 L9 o9 a9 l9, (Dk.mk q L o a l).rem nm = (e, ⟨q9, L9, o9, a9, l9⟩) := ⟨_, _, _, _, _, _, rfl⟩
    have z1 : A.cmp .eql e e = true := by subst hA; exact decide_eq_true rfl
    cbv at z1
    have hDc : (Dk.mk q L o a l).call ⟨k, j, nm, to, d, xs⟩ js = ⟨q9, L9, o9, a9, l9⟩ := by
      unfold Dk.call
      simp only [hk5, (by decide : ¬ ((5 : Int) = 1)), (by decide : ¬ ((5 : Int) = 2)), (by decide : ¬ ((5 : Int) = 3)), (by decide : ¬ ((5 : Int) = 4))]
      first
        | exact congrArg Prod.snd hy
        | (simp only [if_true, if_false]; exact congrArg Prod.snd hy)
        | (simp; rw [hy])
    obtain ⟨n9, hn9⟩ : ∃ z, z = L9.length := ⟨_, rfl⟩
    obtain ⟨c9, hc9⟩ : ∃ z, z = cellsF L9 := ⟨_, rfl⟩
    obtain ⟨lr9, hlr9⟩ : ∃ z, z = rlf a9 l9 := ⟨_, rfl⟩
    have hpl : ∀ κ, pullL κ c9 = c9 := fun κ => by rw [hc9, pullL_eq]; exact pull_rows κ _
    repeat first
      | (simp only [r1, r2, r3, r4, r5]; cbv)
      | refine And.intro (by
         subst hA hX hW
         clear hH
         first
           | exact trivial
           | exact rfl
           | (intro q; exact q)
           | (intro q; simpa [A0] using q)
           | (intro _; trivial)
           | (show Region.lexB _ _ = true; kernel_rfl)
           | (show turnsB _ = true; kernel_rfl)
           | assumption) ?_
    refine pauseL hX (s' := [(0, .ref 0 0 0), (1, .ref 1 0 0), (5, .ref 2 0 0)]) (st' := [dB q nilV o a l, rB q nilV o false lr, ⟨45, [.d (.sc (.int .i64 k)), .d (.sc (.int .i64 j)), .d (.sc (.string nm)), .d (.sc (.string to)), .d (.slc 1 d), .d (.slc 1 xs)], false, 0, true⟩]) (told_less (by simp [toldP, getS])) ?_
    by_cases h09 : L9 = []
    · have hwd := w_rem q none o a l L nm hfr hD
      have hwr := w_rrem q none o a l lr L nm hfr hD hs hlr
      rw [hy] at hwd hwr
      have hB2 : SoundB Try.prog [oneB 21 [.ref 0 0 0, .d (.sc (.string nm))] [dB q nilV o a l, rB q nilV o false lr, ⟨45, [.d (.sc (.int .i64 k)), .d (.sc (.int .i64 j)), .d (.sc (.string nm)), .d (.sc (.string to)), .d (.slc 1 d), .d (.slc 1 xs)], false, 0, true⟩] (.d (.sc (.int .i64 e))) [dB q9 nilV o9 a9 l9, rB q nilV o false lr, ⟨45, [.d (.sc (.int .i64 k)), .d (.sc (.int .i64 j)), .d (.sc (.string nm)), .d (.sc (.string to)), .d (.slc 1 d), .d (.slc 1 xs)], false, 0, true⟩], oneB 42 [.ref 1 0 0, .d (.sc (.string nm))] [dB q9 nilV o9 a9 l9, rB q nilV o false lr, ⟨45, [.d (.sc (.int .i64 k)), .d (.sc (.int .i64 j)), .d (.sc (.string nm)), .d (.sc (.string to)), .d (.slc 1 d), .d (.slc 1 xs)], false, 0, true⟩] (.d (.sc (.int .i64 e))) [dB q9 nilV o9 a9 l9, rB q9 nilV o9 false lr9, ⟨45, [.d (.sc (.int .i64 k)), .d (.sc (.int .i64 j)), .d (.sc (.string nm)), .d (.sc (.string to)), .d (.slc 1 d), .d (.slc 1 xs)], false, 0, true⟩]] := by
        refine orB_ok (oneB_ok (fun K hK => ?_)) (orB_ok (oneB_ok (fun K hK => ?_)) noB_ok)
        · exact pD0e hwd (fun _ _ _ => rfl) rfl rfl h09 hK
        · exact pR0e (l := l) (a := a) hwr (fun _ _ _ => rfl) rfl rfl h09 hlr hlr9 hK
      (with_reducible refine regionB [21, 42] (T := fun _ => tabY [] []) (H := fun _ => []) (B := fun _ => [oneB 21 [.ref 0 0 0, .d (.sc (.string nm))] [dB q nilV o a l, rB q nilV o false lr, ⟨45, [.d (.sc (.int .i64 k)), .d (.sc (.int .i64 j)), .d (.sc (.string nm)), .d (.sc (.string to)), .d (.slc 1 d), .d (.slc 1 xs)], false, 0, true⟩] (.d (.sc (.int .i64 e))) [dB q9 nilV o9 a9 l9, rB q nilV o false lr, ⟨45, [.d (.sc (.int .i64 k)), .d (.sc (.int .i64 j)), .d (.sc (.string nm)), .d (.sc (.string to)), .d (.slc 1 d), .d (.slc 1 xs)], false, 0, true⟩], oneB 42 [.ref 1 0 0, .d (.sc (.string nm))] [dB q9 nilV o9 a9 l9, rB q nilV o false lr, ⟨45, [.d (.sc (.int .i64 k)), .d (.sc (.int .i64 j)), .d (.sc (.string nm)), .d (.sc (.string to)), .d (.slc 1 d), .d (.slc 1 xs)], false, 0, true⟩] (.d (.sc (.int .i64 e))) [dB q9 nilV o9 a9 l9, rB q9 nilV o9 false lr9, ⟨45, [.d (.sc (.int .i64 k)), .d (.sc (.int .i64 j)), .d (.sc (.string nm)), .d (.sc (.string to)), .d (.slc 1 d), .d (.slc 1 xs)], false, 0, true⟩]]) (A := A) (tabY_ok _ _) hH hB2 follows_mixed hA hX (by kernel_rfl) (by kernel_rfl) ?_) <;> cbv
      clear hB2 hwd hwr
      repeat first
        | (simp only [z1]; cbv)
        | refine And.intro (by
           subst hA hX hW
           clear hH
           first
             | exact trivial
             | exact rfl
             | (intro q; exact q)
             | (intro q; simpa [A0] using q)
             | (intro _; trivial)
             | (show Region.lexB _ _ = true; kernel_rfl)
             | (show turnsB _ = true; kernel_rfl)
             | assumption) ?_
      cbv
      subst hA hX hW
      refine ret_keep [0, 1] rfl ?_
      refine ⟨rfl, none, ?_, ?_⟩
      · rw [hDc]
        exact h09
      · rw [hDc]
        simp [clT, keepSt, pullBox, pullL, pullD, hpl, List.idxOf?, List.findIdx?_cons]
        try exact hlr9
    · have hwd := w_rem q none o a l L nm hfr hD
      have hwr := w_rrem q none o a l lr L nm hfr hD hs hlr
      rw [hy] at hwd hwr
      have hB2 : SoundB Try.prog [oneB 21 [.ref 0 0 0, .d (.sc (.string nm))] [dB q nilV o a l, rB q nilV o false lr, ⟨45, [.d (.sc (.int .i64 k)), .d (.sc (.int .i64 j)), .d (.sc (.string nm)), .d (.sc (.string to)), .d (.slc 1 d), .d (.slc 1 xs)], false, 0, true⟩] (.d (.sc (.int .i64 e))) [dB q9 (.view 3 3 9 0 n9) o9 a9 l9, rB q nilV o false lr, ⟨45, [.d (.sc (.int .i64 k)), .d (.sc (.int .i64 j)), .d (.sc (.string nm)), .d (.sc (.string to)), .d (.slc 1 d), .d (.slc 1 xs)], false, 0, true⟩, fB c9 9], oneB 42 [.ref 1 0 0, .d (.sc (.string nm))] [dB q9 (.view 3 3 9 0 n9) o9 a9 l9, rB q nilV o false lr, ⟨45, [.d (.sc (.int .i64 k)), .d (.sc (.int .i64 j)), .d (.sc (.string nm)), .d (.sc (.string to)), .d (.slc 1 d), .d (.slc 1 xs)], false, 0, true⟩, fB c9 9] (.d (.sc (.int .i64 e))) [dB q9 (.view 3 3 9 0 n9) o9 a9 l9, rB q9 (.view 3 4 9 0 n9) o9 false lr9, ⟨45, [.d (.sc (.int .i64 k)), .d (.sc (.int .i64 j)), .d (.sc (.string nm)), .d (.sc (.string to)), .d (.slc 1 d), .d (.slc 1 xs)], false, 0, true⟩, fB c9 9, gB c9 9]] := by
        refine orB_ok (oneB_ok (fun K hK => ?_)) (orB_ok (oneB_ok (fun K hK => ?_)) noB_ok)
        · exact pD0s hwd (fun _ _ _ => rfl) rfl rfl h09 hn9 hc9 hK
        · exact pR0s (l := l) (a := a) hwr (fun _ _ _ => rfl) rfl rfl h09 hn9 hc9 hlr hlr9 hK
      (with_reducible refine regionB [21, 42] (T := fun _ => tabY [] []) (H := fun _ => []) (B := fun _ => [oneB 21 [.ref 0 0 0, .d (.sc (.string nm))] [dB q nilV o a l, rB q nilV o false lr, ⟨45, [.d (.sc (.int .i64 k)), .d (.sc (.int .i64 j)), .d (.sc (.string nm)), .d (.sc (.string to)), .d (.slc 1 d), .d (.slc 1 xs)], false, 0, true⟩] (.d (.sc (.int .i64 e))) [dB q9 (.view 3 3 9 0 n9) o9 a9 l9, rB q nilV o false lr, ⟨45, [.d (.sc (.int .i64 k)), .d (.sc (.int .i64 j)), .d (.sc (.string nm)), .d (.sc (.string to)), .d (.slc 1 d), .d (.slc 1 xs)], false, 0, true⟩, fB c9 9], oneB 42 [.ref 1 0 0, .d (.sc (.string nm))] [dB q9 (.view 3 3 9 0 n9) o9 a9 l9, rB q nilV o false lr, ⟨45, [.d (.sc (.int .i64 k)), .d (.sc (.int .i64 j)), .d (.sc (.string nm)), .d (.sc (.string to)), .d (.slc 1 d), .d (.slc 1 xs)], false, 0, true⟩, fB c9 9] (.d (.sc (.int .i64 e))) [dB q9 (.view 3 3 9 0 n9) o9 a9 l9, rB q9 (.view 3 4 9 0 n9) o9 false lr9, ⟨45, [.d (.sc (.int .i64 k)), .d (.sc (.int .i64 j)), .d (.sc (.string nm)), .d (.sc (.string to)), .d (.slc 1 d), .d (.slc 1 xs)], false, 0, true⟩, fB c9 9, gB c9 9]]) (A := A) (tabY_ok _ _) hH hB2 follows_mixed hA hX (by kernel_rfl) (by kernel_rfl) ?_) <;> cbv
      clear hB2 hwd hwr
      repeat first
        | (simp only [z1]; cbv)
        | refine And.intro (by
           subst hA hX hW
           clear hH
           first
             | exact trivial
             | exact rfl
             | (intro q; exact q)
             | (intro q; simpa [A0] using q)
             | (intro _; trivial)
             | (show Region.lexB _ _ = true; kernel_rfl)
             | (show turnsB _ = true; kernel_rfl)
             | assumption) ?_
      cbv
      subst hA hX hW
      refine ret_keep [0, 1, 3, 4] rfl ?_
      refine ⟨rfl, some (9, 9, n9, c9), ?_, ?_⟩
      · rw [hDc]
        exact ⟨hc9, hn9⟩
      · rw [hDc]
        simp [clT, keepSt, pullBox, pullL, pullD, hpl, List.idxOf?, List.findIdx?_cons]
        try exact hlr9
  have r5 : A.cmp .eql k 5 = false := by subst hA; exact decide_eq_false hk5
  cbv at r5
  by_cases hk6 : k = 6
  · have r6 : A.cmp .eql k 6 = true := by subst hA; exact decide_eq_true hk6
    cbv at r6
    obtain ⟨l9, h69⟩ : ∃ z, max j 0 = z := ⟨_, rfl⟩
    obtain ⟨a9, ha9⟩ : ∃ z, decide (0 ≤ j) = z := ⟨_, rfl⟩
    have hDc : (Dk.mk q L o a l).call ⟨k, j, nm, to, d, xs⟩ js = ⟨q, L, o, a9, l9⟩ := by
      unfold Dk.call
      rw [← h69, ← ha9]
      simp [hk6]
    have z1 : A.cmp .eql 6 6 = true := by subst hA; rfl
    cbv at z1
    obtain ⟨n9, hn9⟩ : ∃ z, z = L.length := ⟨_, rfl⟩
    obtain ⟨c9, hc9⟩ : ∃ z, z = cellsF L := ⟨_, rfl⟩
    obtain ⟨lr9, hlr9⟩ : ∃ z, z = rlf a9 l9 := ⟨_, rfl⟩
    have hpl : ∀ κ, pullL κ c9 = c9 := fun κ => by rw [hc9, pullL_eq]; exact pull_rows κ _
    repeat first
      | (simp only [r1, r2, r3, r4, r5, r6]; cbv)
      | refine And.intro (by
         subst hA hX hW
         clear hH
         first
           | exact trivial
           | exact rfl
           | (intro q; exact q)
           | (intro q; simpa [A0] using q)
           | (intro _; trivial)
           | (show Region.lexB _ _ = true; kernel_rfl)
           | (show turnsB _ = true; kernel_rfl)
           | assumption) ?_
    refine pauseL hX (s' := [(0, .ref 0 0 0), (1, .ref 1 0 0), (5, .ref 2 0 0)]) (st' := [dB q nilV o a l, rB q nilV o false lr, ⟨45, [.d (.sc (.int .i64 k)), .d (.sc (.int .i64 j)), .d (.sc (.string nm)), .d (.sc (.string to)), .d (.slc 1 d), .d (.slc 1 xs)], false, 0, true⟩]) (told_less (by simp [toldP, getS])) ?_
    by_cases h09 : L = []
    · have hwd := armD q none o a l L j hfr
      have hwr := armR q none o a lr L j hfr
      rw [h69, ha9] at hwd hwr
      with_reducible refine goL (T := fun _ => tabY [] []) (H := fun _ => []) (tabY_ok _ _) hH follows_mixed hA hX ?_
      cbv
      repeat first
        | (simp only [z1]; cbv)
        | refine And.intro (by
           subst hA hX hW
           clear hH
           first
             | exact trivial
             | exact rfl
             | (intro q; exact q)
             | (intro q; simpa [A0] using q)
             | (intro _; trivial)
             | (show Region.lexB _ _ = true; kernel_rfl)
             | (show turnsB _ = true; kernel_rfl)
             | assumption) ?_
      refine callL hX (pD0e hwd (fun _ _ _ => rfl) rfl rfl h09 ?_)
      cbv
      refine pauseL hX (s' := [(0, .ref 0 0 0), (1, .ref 1 0 0), (5, .ref 2 0 0)]) (st' := [dB q nilV o a9 l9, rB q nilV o false lr, ⟨45, [.d (.sc (.int .i64 k)), .d (.sc (.int .i64 j)), .d (.sc (.string nm)), .d (.sc (.string to)), .d (.slc 1 d), .d (.slc 1 xs)], false, 0, true⟩]) (told_less (by simp [toldP, getS])) ?_
      with_reducible refine goL (T := fun _ => tabY [] []) (H := fun _ => []) (tabY_ok _ _) hH follows_mixed hA hX ?_
      cbv
      repeat first
        | (simp only [z1]; cbv)
        | refine And.intro (by
           subst hA hX hW
           clear hH
           first
             | exact trivial
             | exact rfl
             | (intro q; exact q)
             | (intro q; simpa [A0] using q)
             | (intro _; trivial)
             | (show Region.lexB _ _ = true; kernel_rfl)
             | (show turnsB _ = true; kernel_rfl)
             | assumption) ?_
      refine callL hX (pR0e (l := l) (a := a) hwr (fun _ _ _ => rfl) rfl rfl h09 hlr hlr9 ?_)
      cbv
      repeat first
        | (simp only [z1]; cbv)
        | refine And.intro (by
           subst hA hX hW
           clear hH
           first
             | exact trivial
             | exact rfl
             | (intro q; exact q)
             | (intro q; simpa [A0] using q)
             | (intro _; trivial)
             | (show Region.lexB _ _ = true; kernel_rfl)
             | (show turnsB _ = true; kernel_rfl)
             | assumption) ?_
      cbv
      subst hA hX hW
      refine ret_keep [0, 1] rfl ?_
      refine ⟨rfl, none, ?_, ?_⟩
      · rw [hDc]
        exact h09
      · rw [hDc]
        simp [clT, keepSt, pullBox, pullL, pullD, hpl, List.idxOf?, List.findIdx?_cons]
        try exact hlr9
    · have hwd := armD q none o a l L j hfr
      have hwr := armR q none o a lr L j hfr
      rw [h69, ha9] at hwd hwr
      with_reducible refine goL (T := fun _ => tabY [] []) (H := fun _ => []) (tabY_ok _ _) hH follows_mixed hA hX ?_
      cbv
      repeat first
        | (simp only [z1]; cbv)
        | refine And.intro (by
           subst hA hX hW
           clear hH
           first
             | exact trivial
             | exact rfl
             | (intro q; exact q)
             | (intro q; simpa [A0] using q)
             | (intro _; trivial)
             | (show Region.lexB _ _ = true; kernel_rfl)
             | (show turnsB _ = true; kernel_rfl)
             | assumption) ?_
      refine callL hX (pD0s hwd (fun _ _ _ => rfl) rfl rfl h09 hn9 hc9 ?_)
      cbv
      refine pauseL hX (s' := [(0, .ref 0 0 0), (1, .ref 1 0 0), (5, .ref 2 0 0)]) (st' := [dB q (.view 3 3 9 0 n9) o a9 l9, rB q nilV o false lr, ⟨45, [.d (.sc (.int .i64 k)), .d (.sc (.int .i64 j)), .d (.sc (.string nm)), .d (.sc (.string to)), .d (.slc 1 d), .d (.slc 1 xs)], false, 0, true⟩, fB c9 9]) (told_less (by simp [toldP, getS])) ?_
      with_reducible refine goL (T := fun _ => tabY [] []) (H := fun _ => []) (tabY_ok _ _) hH follows_mixed hA hX ?_
      cbv
      repeat first
        | (simp only [z1]; cbv)
        | refine And.intro (by
           subst hA hX hW
           clear hH
           first
             | exact trivial
             | exact rfl
             | (intro q; exact q)
             | (intro q; simpa [A0] using q)
             | (intro _; trivial)
             | (show Region.lexB _ _ = true; kernel_rfl)
             | (show turnsB _ = true; kernel_rfl)
             | assumption) ?_
      refine callL hX (pR0s (l := l) (a := a) hwr (fun _ _ _ => rfl) rfl rfl h09 hn9 hc9 hlr hlr9 ?_)
      cbv
      repeat first
        | (simp only [z1]; cbv)
        | refine And.intro (by
           subst hA hX hW
           clear hH
           first
             | exact trivial
             | exact rfl
             | (intro q; exact q)
             | (intro q; simpa [A0] using q)
             | (intro _; trivial)
             | (show Region.lexB _ _ = true; kernel_rfl)
             | (show turnsB _ = true; kernel_rfl)
             | assumption) ?_
      cbv
      subst hA hX hW
      refine ret_keep [0, 1, 3, 4] rfl ?_
      refine ⟨rfl, some (9, 9, n9, c9), ?_, ?_⟩
      · rw [hDc]
        exact ⟨hc9, hn9⟩
      · rw [hDc]
        simp [clT, keepSt, pullBox, pullL, pullD, hpl, List.idxOf?, List.findIdx?_cons]
        try exact hlr9
  have r6 : A.cmp .eql k 6 = false := by subst hA; exact decide_eq_false hk6
  cbv at r6
  by_cases hk7 : k = 7
  · have r7 : A.cmp .eql k 7 = true := by subst hA; exact decide_eq_true hk7
    cbv at r7
    obtain ⟨q9, L9, o9, a9, l9, hy⟩ : ∃ q9 L9 o9 a9 l9, (Dk.mk q L o a l).crash js = ⟨q9, L9, o9, a9, l9⟩ := ⟨_, _, _, _, _, rfl⟩
    have hDc : (Dk.mk q L o a l).call ⟨k, j, nm, to, d, xs⟩ js = ⟨q9, L9, o9, a9, l9⟩ := by
      unfold Dk.call
      simp only [hk7]
      simp
      exact hy
    have z1 : A.cmp .eql 7 7 = true := by subst hA; rfl
    cbv at z1
    obtain ⟨n9, hn9⟩ : ∃ z, z = L9.length := ⟨_, rfl⟩
    obtain ⟨c9, hc9⟩ : ∃ z, z = cellsF L9 := ⟨_, rfl⟩
    obtain ⟨lr9, hlr9⟩ : ∃ z, z = rlf a9 l9 := ⟨_, rfl⟩
    have hpl : ∀ κ, pullL κ c9 = c9 := fun κ => by rw [hc9, pullL_eq]; exact pull_rows κ _
    repeat first
      | (simp only [r1, r2, r3, r4, r5, r6, r7]; cbv)
      | refine And.intro (by
         subst hA hX hW
         clear hH
         first
           | exact trivial
           | exact rfl
           | (intro q; exact q)
           | (intro q; simpa [A0] using q)
           | (intro _; trivial)
           | (show Region.lexB _ _ = true; kernel_rfl)
           | (show turnsB _ = true; kernel_rfl)
           | assumption) ?_
    refine pauseL hX (s' := [(0, .ref 0 0 0), (1, .ref 1 0 0), (5, .ref 2 0 0)]) (st' := [dB q nilV o a l, rB q nilV o false lr, ⟨45, [.d (.sc (.int .i64 k)), .d (.sc (.int .i64 j)), .d (.sc (.string nm)), .d (.sc (.string to)), .d (.slc 1 d), .d (.slc 1 xs)], false, 0, true⟩]) (told_less (by simp [toldP, getS])) ?_
    by_cases h09 : L9 = []
    · have hwd := w_crash q none o a l L js hfr hD hj1 hj2
      have hwr := crashR q none o a l lr L js hfr hD hj1 hj2
      rw [hy, ← hjx] at hwd hwr
      with_reducible refine goL (T := fun _ => tabY [] []) (H := fun _ => []) (tabY_ok _ _) hH follows_mixed hA hX ?_
      cbv
      repeat first
        | (simp only [z1]; cbv)
        | refine And.intro (by
           subst hA hX hW
           clear hH
           first
             | exact trivial
             | exact rfl
             | (intro q; exact q)
             | (intro q; simpa [A0] using q)
             | (intro _; trivial)
             | (show Region.lexB _ _ = true; kernel_rfl)
             | (show turnsB _ = true; kernel_rfl)
             | assumption) ?_
      refine callL hX (pD0e hwd (fun _ _ _ => rfl) rfl rfl h09 ?_)
      cbv
      refine pauseL hX (s' := [(0, .ref 0 0 0), (1, .ref 1 0 0), (5, .ref 2 0 0)]) (st' := [dB q9 nilV o9 a9 l9, rB q nilV o false lr, ⟨45, [.d (.sc (.int .i64 k)), .d (.sc (.int .i64 j)), .d (.sc (.string nm)), .d (.sc (.string to)), .d (.slc 1 d), .d (.slc 1 xs)], false, 0, true⟩]) (told_less (by simp [toldP, getS])) ?_
      with_reducible refine goL (T := fun _ => tabY [] []) (H := fun _ => []) (tabY_ok _ _) hH follows_mixed hA hX ?_
      cbv
      repeat first
        | (simp only [z1]; cbv)
        | refine And.intro (by
           subst hA hX hW
           clear hH
           first
             | exact trivial
             | exact rfl
             | (intro q; exact q)
             | (intro q; simpa [A0] using q)
             | (intro _; trivial)
             | (show Region.lexB _ _ = true; kernel_rfl)
             | (show turnsB _ = true; kernel_rfl)
             | assumption) ?_
      refine callL hX (pR0e (l := l) (a := a) hwr (fun _ _ _ => rfl) rfl rfl h09 hlr hlr9 ?_)
      cbv
      repeat first
        | (simp only [z1]; cbv)
        | refine And.intro (by
           subst hA hX hW
           clear hH
           first
             | exact trivial
             | exact rfl
             | (intro q; exact q)
             | (intro q; simpa [A0] using q)
             | (intro _; trivial)
             | (show Region.lexB _ _ = true; kernel_rfl)
             | (show turnsB _ = true; kernel_rfl)
             | assumption) ?_
      cbv
      subst hA hX hW
      refine ret_keep [0, 1] rfl ?_
      refine ⟨rfl, none, ?_, ?_⟩
      · rw [hDc]
        exact h09
      · rw [hDc]
        simp [clT, keepSt, pullBox, pullL, pullD, hpl, List.idxOf?, List.findIdx?_cons]
        try exact hlr9
    · have hwd := w_crash q none o a l L js hfr hD hj1 hj2
      have hwr := crashR q none o a l lr L js hfr hD hj1 hj2
      rw [hy, ← hjx] at hwd hwr
      with_reducible refine goL (T := fun _ => tabY [] []) (H := fun _ => []) (tabY_ok _ _) hH follows_mixed hA hX ?_
      cbv
      repeat first
        | (simp only [z1]; cbv)
        | refine And.intro (by
           subst hA hX hW
           clear hH
           first
             | exact trivial
             | exact rfl
             | (intro q; exact q)
             | (intro q; simpa [A0] using q)
             | (intro _; trivial)
             | (show Region.lexB _ _ = true; kernel_rfl)
             | (show turnsB _ = true; kernel_rfl)
             | assumption) ?_
      refine callL hX (pD0s hwd (fun _ _ _ => rfl) rfl rfl h09 hn9 hc9 ?_)
      cbv
      refine pauseL hX (s' := [(0, .ref 0 0 0), (1, .ref 1 0 0), (5, .ref 2 0 0)]) (st' := [dB q9 (.view 3 3 9 0 n9) o9 a9 l9, rB q nilV o false lr, ⟨45, [.d (.sc (.int .i64 k)), .d (.sc (.int .i64 j)), .d (.sc (.string nm)), .d (.sc (.string to)), .d (.slc 1 d), .d (.slc 1 xs)], false, 0, true⟩, fB c9 9]) (told_less (by simp [toldP, getS])) ?_
      with_reducible refine goL (T := fun _ => tabY [] []) (H := fun _ => []) (tabY_ok _ _) hH follows_mixed hA hX ?_
      cbv
      repeat first
        | (simp only [z1]; cbv)
        | refine And.intro (by
           subst hA hX hW
           clear hH
           first
             | exact trivial
             | exact rfl
             | (intro q; exact q)
             | (intro q; simpa [A0] using q)
             | (intro _; trivial)
             | (show Region.lexB _ _ = true; kernel_rfl)
             | (show turnsB _ = true; kernel_rfl)
             | assumption) ?_
      refine callL hX (pR0s (l := l) (a := a) hwr (fun _ _ _ => rfl) rfl rfl h09 hn9 hc9 hlr hlr9 ?_)
      cbv
      repeat first
        | (simp only [z1]; cbv)
        | refine And.intro (by
           subst hA hX hW
           clear hH
           first
             | exact trivial
             | exact rfl
             | (intro q; exact q)
             | (intro q; simpa [A0] using q)
             | (intro _; trivial)
             | (show Region.lexB _ _ = true; kernel_rfl)
             | (show turnsB _ = true; kernel_rfl)
             | assumption) ?_
      cbv
      subst hA hX hW
      refine ret_keep [0, 1, 3, 4] rfl ?_
      refine ⟨rfl, some (9, 9, n9, c9), ?_, ?_⟩
      · rw [hDc]
        exact ⟨hc9, hn9⟩
      · rw [hDc]
        simp [clT, keepSt, pullBox, pullL, pullD, hpl, List.idxOf?, List.findIdx?_cons]
        try exact hlr9
  have r7 : A.cmp .eql k 7 = false := by subst hA; exact decide_eq_false hk7
  cbv at r7
  repeat first
    | (simp only [r1, r2, r3, r4, r5, r6, r7]; cbv)
    | refine And.intro (by
       subst hA hX hW
       clear hH
       first
         | exact trivial
         | exact rfl
         | (intro q; exact q)
         | (intro q; simpa [A0] using q)
         | (intro _; trivial)
         | (show Region.lexB _ _ = true; kernel_rfl)
         | (show turnsB _ = true; kernel_rfl)
         | assumption) ?_
  have hDc : (Dk.mk q L o a l).call ⟨k, j, nm, to, d, xs⟩ js = ⟨q, L, o, a, l⟩ := by
    unfold Dk.call
    simp [hk1, hk2, hk3, hk4, hk5, hk6, hk7]
  subst hA hX hW
  refine ret_keep [0, 1] rfl ⟨rfl, none, by rw [hDc]; exact hfr, ?_⟩
  rw [hDc]
  simp [clT, keepSt, pullBox, pullL, pullD, List.idxOf?, List.findIdx?_cons]
  try exact hlr
set_option maxRecDepth 100000 in
theorem w_call1 (q lr : Int) (o a : Bool) (l : Int) (L : List FileM) (v u n : Nat) (cs : List DV) (k j : Int) (nm to : ByteArray) (d xs : List (List PD)) (js : List Int) (hfr : Fr.is L (some (v, n, cs))) (hlr : lr = rlf a l) (hD : okD 900 ⟨q, L, o, a, l⟩) (hs : srtF L) (hnm : nm.size ≤ 1048576) (hto : to.size ≤ 1048576) (hd : isB d) (hjx : xs = intsX js) (hj1 : js.length ≤ 4194304) (hj2 : ∀ p ∈ js, r64 p) : FnD Try.prog 27 [.ref 0 0 0, .ref 1 0 0, .agg [.d (.sc (.int .i64 k)), .d (.sc (.int .i64 j)), .d (.sc (.string nm)), .d (.sc (.string to)), .d (.slc 1 d), .d (.slc 1 xs)]] [dB q (.view 3 2 v 0 n) o a l, rB q (.view 3 3 u 0 n) o false lr, fB cs v, gB cs u] (fun r st' => r = .d (.sc (.bool true)) ∧ ∃ y, clI ((Dk.mk q L o a l).call ⟨k, j, nm, to, d, xs⟩ js) y ∧ st' = clT ((Dk.mk q L o a l).call ⟨k, j, nm, to, d, xs⟩ js) y) := by
  obtain ⟨hcs, hnl⟩ := id hfr
  have hH : SoundK Try.prog [] := by exact noK_ok
  have hB : SoundB Try.prog [] := by exact noB_ok
  refine FnD_cbv (T := fun _ => tabY [] [3, 5, 7, 9, 11, 13, 14, 16, 17]) (H := fun _ => []) (tabY_ok _ _) hH follows_mixed Try.func27 rfl Try.ntmps27 (by simp) fun A X W hA hX hW => ?_
  cbv
  by_cases hk1 : k = 1
  · have r1 : A.cmp .eql k 1 = true := by subst hA; exact decide_eq_true hk1
    cbv at r1
    obtain ⟨e, q9, L9, o9, a9, l9, hy⟩ : ∃ e q9 L9 o9 a9 l9, (Dk.mk q L o a l).app nm d = (e, ⟨q9, L9, o9, a9, l9⟩) := ⟨_, _, _, _, _, _, rfl⟩
    have z1 : A.cmp .eql e e = true := by subst hA; exact decide_eq_true rfl
    cbv at z1
    have hDc : (Dk.mk q L o a l).call ⟨k, j, nm, to, d, xs⟩ js = ⟨q9, L9, o9, a9, l9⟩ := by
      unfold Dk.call
      simp only [hk1, if_true]
      first
        | exact congrArg Prod.snd hy
        | (simp only [if_true, if_false]; exact congrArg Prod.snd hy)
        | (simp; rw [hy])
    obtain ⟨n9, hn9⟩ : ∃ z, z = L9.length := ⟨_, rfl⟩
    obtain ⟨c9, hc9⟩ : ∃ z, z = cellsF L9 := ⟨_, rfl⟩
    obtain ⟨lr9, hlr9⟩ : ∃ z, z = rlf a9 l9 := ⟨_, rfl⟩
    have hpl : ∀ κ, pullL κ c9 = c9 := fun κ => by rw [hc9, pullL_eq]; exact pull_rows κ _
    repeat first
      | (simp only [r1]; cbv)
      | refine And.intro (by
         subst hA hX hW
         clear hH
         first
           | exact trivial
           | exact rfl
           | (intro q; exact q)
           | (intro q; simpa [A0] using q)
           | (intro _; trivial)
           | (show Region.lexB _ _ = true; kernel_rfl)
           | (show turnsB _ = true; kernel_rfl)
           | assumption) ?_
    refine pauseL hX (s' := [(0, .ref 0 0 0), (1, .ref 1 0 0), (5, .ref 4 0 0)]) (st' := [dB q (.view 3 2 v 0 n) o a l, rB q (.view 3 3 u 0 n) o false lr, fB cs v, gB cs u, ⟨45, [.d (.sc (.int .i64 k)), .d (.sc (.int .i64 j)), .d (.sc (.string nm)), .d (.sc (.string to)), .d (.slc 1 d), .d (.slc 1 xs)], false, 0, true⟩]) (told_less (by simp [toldP, getS])) ?_
    obtain ⟨w1, hw1⟩ : ∃ z, z = v + 9 := ⟨_, rfl⟩
    obtain ⟨w2, hw2⟩ : ∃ z, z = u + 9 := ⟨_, rfl⟩
    have hwd := w_app q (some (v, n, cs)) o a l L nm d hfr hD hnm hd
    have hwr := w_rapp q (some (u, n, cs)) o a l lr L nm d hfr hD hs hlr hnm hd
    rw [hy] at hwd hwr
    have hB2 : SoundB Try.prog [oneB 11 [.ref 0 0 0, .d (.sc (.string nm)), .d (.slc 1 d)] [dB q (.view 3 2 v 0 n) o a l, rB q (.view 3 3 u 0 n) o false lr, fB cs v, gB cs u, ⟨45, [.d (.sc (.int .i64 k)), .d (.sc (.int .i64 j)), .d (.sc (.string nm)), .d (.sc (.string to)), .d (.slc 1 d), .d (.slc 1 xs)], false, 0, true⟩] (.d (.sc (.int .i64 e))) [dB q9 (.view 3 2 w1 0 n9) o9 a9 l9, rB q (.view 3 3 u 0 n) o false lr, fB c9 w1, gB cs u, ⟨45, [.d (.sc (.int .i64 k)), .d (.sc (.int .i64 j)), .d (.sc (.string nm)), .d (.sc (.string to)), .d (.slc 1 d), .d (.slc 1 xs)], false, 0, true⟩], oneB 37 [.ref 1 0 0, .d (.sc (.string nm)), .d (.slc 1 d)] [dB q9 (.view 3 2 w1 0 n9) o9 a9 l9, rB q (.view 3 3 u 0 n) o false lr, fB c9 w1, gB cs u, ⟨45, [.d (.sc (.int .i64 k)), .d (.sc (.int .i64 j)), .d (.sc (.string nm)), .d (.sc (.string to)), .d (.slc 1 d), .d (.slc 1 xs)], false, 0, true⟩] (.d (.sc (.int .i64 e))) [dB q9 (.view 3 2 w1 0 n9) o9 a9 l9, rB q9 (.view 3 3 w2 0 n9) o9 false lr9, fB c9 w1, gB c9 w2, ⟨45, [.d (.sc (.int .i64 k)), .d (.sc (.int .i64 j)), .d (.sc (.string nm)), .d (.sc (.string to)), .d (.slc 1 d), .d (.slc 1 xs)], false, 0, true⟩]] := by
      refine orB_ok (oneB_ok (fun K hK => ?_)) (orB_ok (oneB_ok (fun K hK => ?_)) noB_ok)
      · exact pD1 (L := L) hwd (fun _ _ _ => rfl) rfl rfl hcs hn9 hc9 hw1 hK
      · exact pR1 (L := L) (l := l) (a := a) hwr (fun _ _ _ => rfl) rfl rfl hcs hn9 hc9 hw2 hlr hlr9 hK
    (with_reducible refine regionB [11, 37] (T := fun _ => tabY [] []) (H := fun _ => []) (B := fun _ => [oneB 11 [.ref 0 0 0, .d (.sc (.string nm)), .d (.slc 1 d)] [dB q (.view 3 2 v 0 n) o a l, rB q (.view 3 3 u 0 n) o false lr, fB cs v, gB cs u, ⟨45, [.d (.sc (.int .i64 k)), .d (.sc (.int .i64 j)), .d (.sc (.string nm)), .d (.sc (.string to)), .d (.slc 1 d), .d (.slc 1 xs)], false, 0, true⟩] (.d (.sc (.int .i64 e))) [dB q9 (.view 3 2 w1 0 n9) o9 a9 l9, rB q (.view 3 3 u 0 n) o false lr, fB c9 w1, gB cs u, ⟨45, [.d (.sc (.int .i64 k)), .d (.sc (.int .i64 j)), .d (.sc (.string nm)), .d (.sc (.string to)), .d (.slc 1 d), .d (.slc 1 xs)], false, 0, true⟩], oneB 37 [.ref 1 0 0, .d (.sc (.string nm)), .d (.slc 1 d)] [dB q9 (.view 3 2 w1 0 n9) o9 a9 l9, rB q (.view 3 3 u 0 n) o false lr, fB c9 w1, gB cs u, ⟨45, [.d (.sc (.int .i64 k)), .d (.sc (.int .i64 j)), .d (.sc (.string nm)), .d (.sc (.string to)), .d (.slc 1 d), .d (.slc 1 xs)], false, 0, true⟩] (.d (.sc (.int .i64 e))) [dB q9 (.view 3 2 w1 0 n9) o9 a9 l9, rB q9 (.view 3 3 w2 0 n9) o9 false lr9, fB c9 w1, gB c9 w2, ⟨45, [.d (.sc (.int .i64 k)), .d (.sc (.int .i64 j)), .d (.sc (.string nm)), .d (.sc (.string to)), .d (.slc 1 d), .d (.slc 1 xs)], false, 0, true⟩]]) (A := A) (tabY_ok _ _) hH hB2 follows_mixed hA hX (by kernel_rfl) (by kernel_rfl) ?_) <;> cbv
    clear hB2 hwd hwr
    repeat first
      | (simp only [z1]; cbv)
      | refine And.intro (by
         subst hA hX hW
         clear hH
         first
           | exact trivial
           | exact rfl
           | (intro q; exact q)
           | (intro q; simpa [A0] using q)
           | (intro _; trivial)
           | (show Region.lexB _ _ = true; kernel_rfl)
           | (show turnsB _ = true; kernel_rfl)
           | assumption) ?_
    cbv
    subst hA hX hW
    refine ret_keep [0, 1, 2, 3] rfl ?_
    refine ⟨rfl, some (w1, w2, n9, c9), ?_, ?_⟩
    · rw [hDc]
      exact ⟨hc9, hn9⟩
    · rw [hDc]
      simp [clT, keepSt, pullBox, pullL, pullD, hpl, List.idxOf?, List.findIdx?_cons]
      try exact hlr9
  have r1 : A.cmp .eql k 1 = false := by subst hA; exact decide_eq_false hk1
  cbv at r1
  by_cases hk2 : k = 2
  · have r2 : A.cmp .eql k 2 = true := by subst hA; exact decide_eq_true hk2
    cbv at r2
    obtain ⟨e, q9, L9, o9, a9, l9, hy⟩ : ∃ e q9 L9 o9 a9 l9, (Dk.mk q L o a l).sync nm = (e, ⟨q9, L9, o9, a9, l9⟩) := ⟨_, _, _, _, _, _, rfl⟩
    have z1 : A.cmp .eql e e = true := by subst hA; exact decide_eq_true rfl
    cbv at z1
    have hDc : (Dk.mk q L o a l).call ⟨k, j, nm, to, d, xs⟩ js = ⟨q9, L9, o9, a9, l9⟩ := by
      unfold Dk.call
      simp only [hk2, (by decide : ¬ ((2 : Int) = 1))]
      first
        | exact congrArg Prod.snd hy
        | (simp only [if_true, if_false]; exact congrArg Prod.snd hy)
        | (simp; rw [hy])
    obtain ⟨n9, hn9⟩ : ∃ z, z = L9.length := ⟨_, rfl⟩
    obtain ⟨c9, hc9⟩ : ∃ z, z = cellsF L9 := ⟨_, rfl⟩
    obtain ⟨lr9, hlr9⟩ : ∃ z, z = rlf a9 l9 := ⟨_, rfl⟩
    have hpl : ∀ κ, pullL κ c9 = c9 := fun κ => by rw [hc9, pullL_eq]; exact pull_rows κ _
    repeat first
      | (simp only [r1, r2]; cbv)
      | refine And.intro (by
         subst hA hX hW
         clear hH
         first
           | exact trivial
           | exact rfl
           | (intro q; exact q)
           | (intro q; simpa [A0] using q)
           | (intro _; trivial)
           | (show Region.lexB _ _ = true; kernel_rfl)
           | (show turnsB _ = true; kernel_rfl)
           | assumption) ?_
    refine pauseL hX (s' := [(0, .ref 0 0 0), (1, .ref 1 0 0), (5, .ref 4 0 0)]) (st' := [dB q (.view 3 2 v 0 n) o a l, rB q (.view 3 3 u 0 n) o false lr, fB cs v, gB cs u, ⟨45, [.d (.sc (.int .i64 k)), .d (.sc (.int .i64 j)), .d (.sc (.string nm)), .d (.sc (.string to)), .d (.slc 1 d), .d (.slc 1 xs)], false, 0, true⟩]) (told_less (by simp [toldP, getS])) ?_
    obtain ⟨w1, hw1⟩ : ∃ z, z = v + 9 := ⟨_, rfl⟩
    obtain ⟨w2, hw2⟩ : ∃ z, z = u + 9 := ⟨_, rfl⟩
    have hwd := w_sync q (some (v, n, cs)) o a l L nm hfr hD
    have hwr := w_rsync q (some (u, n, cs)) o a l lr L nm hfr hD hs hlr
    rw [hy] at hwd hwr
    have hB2 : SoundB Try.prog [oneB 12 [.ref 0 0 0, .d (.sc (.string nm))] [dB q (.view 3 2 v 0 n) o a l, rB q (.view 3 3 u 0 n) o false lr, fB cs v, gB cs u, ⟨45, [.d (.sc (.int .i64 k)), .d (.sc (.int .i64 j)), .d (.sc (.string nm)), .d (.sc (.string to)), .d (.slc 1 d), .d (.slc 1 xs)], false, 0, true⟩] (.d (.sc (.int .i64 e))) [dB q9 (.view 3 2 w1 0 n9) o9 a9 l9, rB q (.view 3 3 u 0 n) o false lr, fB c9 w1, gB cs u, ⟨45, [.d (.sc (.int .i64 k)), .d (.sc (.int .i64 j)), .d (.sc (.string nm)), .d (.sc (.string to)), .d (.slc 1 d), .d (.slc 1 xs)], false, 0, true⟩], oneB 38 [.ref 1 0 0, .d (.sc (.string nm))] [dB q9 (.view 3 2 w1 0 n9) o9 a9 l9, rB q (.view 3 3 u 0 n) o false lr, fB c9 w1, gB cs u, ⟨45, [.d (.sc (.int .i64 k)), .d (.sc (.int .i64 j)), .d (.sc (.string nm)), .d (.sc (.string to)), .d (.slc 1 d), .d (.slc 1 xs)], false, 0, true⟩] (.d (.sc (.int .i64 e))) [dB q9 (.view 3 2 w1 0 n9) o9 a9 l9, rB q9 (.view 3 3 w2 0 n9) o9 false lr9, fB c9 w1, gB c9 w2, ⟨45, [.d (.sc (.int .i64 k)), .d (.sc (.int .i64 j)), .d (.sc (.string nm)), .d (.sc (.string to)), .d (.slc 1 d), .d (.slc 1 xs)], false, 0, true⟩]] := by
      refine orB_ok (oneB_ok (fun K hK => ?_)) (orB_ok (oneB_ok (fun K hK => ?_)) noB_ok)
      · exact pD1 (L := L) hwd (fun _ _ _ => rfl) rfl rfl hcs hn9 hc9 hw1 hK
      · exact pR1 (L := L) (l := l) (a := a) hwr (fun _ _ _ => rfl) rfl rfl hcs hn9 hc9 hw2 hlr hlr9 hK
    (with_reducible refine regionB [12, 38] (T := fun _ => tabY [] []) (H := fun _ => []) (B := fun _ => [oneB 12 [.ref 0 0 0, .d (.sc (.string nm))] [dB q (.view 3 2 v 0 n) o a l, rB q (.view 3 3 u 0 n) o false lr, fB cs v, gB cs u, ⟨45, [.d (.sc (.int .i64 k)), .d (.sc (.int .i64 j)), .d (.sc (.string nm)), .d (.sc (.string to)), .d (.slc 1 d), .d (.slc 1 xs)], false, 0, true⟩] (.d (.sc (.int .i64 e))) [dB q9 (.view 3 2 w1 0 n9) o9 a9 l9, rB q (.view 3 3 u 0 n) o false lr, fB c9 w1, gB cs u, ⟨45, [.d (.sc (.int .i64 k)), .d (.sc (.int .i64 j)), .d (.sc (.string nm)), .d (.sc (.string to)), .d (.slc 1 d), .d (.slc 1 xs)], false, 0, true⟩], oneB 38 [.ref 1 0 0, .d (.sc (.string nm))] [dB q9 (.view 3 2 w1 0 n9) o9 a9 l9, rB q (.view 3 3 u 0 n) o false lr, fB c9 w1, gB cs u, ⟨45, [.d (.sc (.int .i64 k)), .d (.sc (.int .i64 j)), .d (.sc (.string nm)), .d (.sc (.string to)), .d (.slc 1 d), .d (.slc 1 xs)], false, 0, true⟩] (.d (.sc (.int .i64 e))) [dB q9 (.view 3 2 w1 0 n9) o9 a9 l9, rB q9 (.view 3 3 w2 0 n9) o9 false lr9, fB c9 w1, gB c9 w2, ⟨45, [.d (.sc (.int .i64 k)), .d (.sc (.int .i64 j)), .d (.sc (.string nm)), .d (.sc (.string to)), .d (.slc 1 d), .d (.slc 1 xs)], false, 0, true⟩]]) (A := A) (tabY_ok _ _) hH hB2 follows_mixed hA hX (by kernel_rfl) (by kernel_rfl) ?_) <;> cbv
    clear hB2 hwd hwr
    repeat first
      | (simp only [z1]; cbv)
      | refine And.intro (by
         subst hA hX hW
         clear hH
         first
           | exact trivial
           | exact rfl
           | (intro q; exact q)
           | (intro q; simpa [A0] using q)
           | (intro _; trivial)
           | (show Region.lexB _ _ = true; kernel_rfl)
           | (show turnsB _ = true; kernel_rfl)
           | assumption) ?_
    cbv
    subst hA hX hW
    refine ret_keep [0, 1, 2, 3] rfl ?_
    refine ⟨rfl, some (w1, w2, n9, c9), ?_, ?_⟩
    · rw [hDc]
      exact ⟨hc9, hn9⟩
    · rw [hDc]
      simp [clT, keepSt, pullBox, pullL, pullD, hpl, List.idxOf?, List.findIdx?_cons]
      try exact hlr9
  have r2 : A.cmp .eql k 2 = false := by subst hA; exact decide_eq_false hk2
  cbv at r2
  by_cases hk3 : k = 3
  · have r3 : A.cmp .eql k 3 = true := by subst hA; exact decide_eq_true hk3
    cbv at r3
    obtain ⟨e, q9, L9, o9, a9, l9, hy⟩ : ∃ e q9 L9 o9 a9 l9, (Dk.mk q L o a l).cut nm j = (e, ⟨q9, L9, o9, a9, l9⟩) := ⟨_, _, _, _, _, _, rfl⟩
    have z1 : A.cmp .eql e e = true := by subst hA; exact decide_eq_true rfl
    cbv at z1
    have hDc : (Dk.mk q L o a l).call ⟨k, j, nm, to, d, xs⟩ js = ⟨q9, L9, o9, a9, l9⟩ := by
      unfold Dk.call
      simp only [hk3, (by decide : ¬ ((3 : Int) = 1)), (by decide : ¬ ((3 : Int) = 2))]
      first
        | exact congrArg Prod.snd hy
        | (simp only [if_true, if_false]; exact congrArg Prod.snd hy)
        | (simp; rw [hy])
    obtain ⟨n9, hn9⟩ : ∃ z, z = L9.length := ⟨_, rfl⟩
    obtain ⟨c9, hc9⟩ : ∃ z, z = cellsF L9 := ⟨_, rfl⟩
    obtain ⟨lr9, hlr9⟩ : ∃ z, z = rlf a9 l9 := ⟨_, rfl⟩
    have hpl : ∀ κ, pullL κ c9 = c9 := fun κ => by rw [hc9, pullL_eq]; exact pull_rows κ _
    repeat first
      | (simp only [r1, r2, r3]; cbv)
      | refine And.intro (by
         subst hA hX hW
         clear hH
         first
           | exact trivial
           | exact rfl
           | (intro q; exact q)
           | (intro q; simpa [A0] using q)
           | (intro _; trivial)
           | (show Region.lexB _ _ = true; kernel_rfl)
           | (show turnsB _ = true; kernel_rfl)
           | assumption) ?_
    refine pauseL hX (s' := [(0, .ref 0 0 0), (1, .ref 1 0 0), (5, .ref 4 0 0)]) (st' := [dB q (.view 3 2 v 0 n) o a l, rB q (.view 3 3 u 0 n) o false lr, fB cs v, gB cs u, ⟨45, [.d (.sc (.int .i64 k)), .d (.sc (.int .i64 j)), .d (.sc (.string nm)), .d (.sc (.string to)), .d (.slc 1 d), .d (.slc 1 xs)], false, 0, true⟩]) (told_less (by simp [toldP, getS])) ?_
    obtain ⟨w1, hw1⟩ : ∃ z, z = v + 9 := ⟨_, rfl⟩
    obtain ⟨w2, hw2⟩ : ∃ z, z = u + 9 := ⟨_, rfl⟩
    have hwd := w_cut q (some (v, n, cs)) o a l L nm j hfr hD
    have hwr := w_rcut q (some (u, n, cs)) o a l lr L nm j hfr hD hs hlr
    rw [hy] at hwd hwr
    have hB2 : SoundB Try.prog [oneB 39 [.ref 0 0 0, .d (.sc (.string nm)), .d (.sc (.int .i64 j))] [dB q (.view 3 2 v 0 n) o a l, rB q (.view 3 3 u 0 n) o false lr, fB cs v, gB cs u, ⟨45, [.d (.sc (.int .i64 k)), .d (.sc (.int .i64 j)), .d (.sc (.string nm)), .d (.sc (.string to)), .d (.slc 1 d), .d (.slc 1 xs)], false, 0, true⟩] (.d (.sc (.int .i64 e))) [dB q9 (.view 3 2 w1 0 n9) o9 a9 l9, rB q (.view 3 3 u 0 n) o false lr, fB c9 w1, gB cs u, ⟨45, [.d (.sc (.int .i64 k)), .d (.sc (.int .i64 j)), .d (.sc (.string nm)), .d (.sc (.string to)), .d (.slc 1 d), .d (.slc 1 xs)], false, 0, true⟩], oneB 40 [.ref 1 0 0, .d (.sc (.string nm)), .d (.sc (.int .i64 j))] [dB q9 (.view 3 2 w1 0 n9) o9 a9 l9, rB q (.view 3 3 u 0 n) o false lr, fB c9 w1, gB cs u, ⟨45, [.d (.sc (.int .i64 k)), .d (.sc (.int .i64 j)), .d (.sc (.string nm)), .d (.sc (.string to)), .d (.slc 1 d), .d (.slc 1 xs)], false, 0, true⟩] (.d (.sc (.int .i64 e))) [dB q9 (.view 3 2 w1 0 n9) o9 a9 l9, rB q9 (.view 3 3 w2 0 n9) o9 false lr9, fB c9 w1, gB c9 w2, ⟨45, [.d (.sc (.int .i64 k)), .d (.sc (.int .i64 j)), .d (.sc (.string nm)), .d (.sc (.string to)), .d (.slc 1 d), .d (.slc 1 xs)], false, 0, true⟩]] := by
      refine orB_ok (oneB_ok (fun K hK => ?_)) (orB_ok (oneB_ok (fun K hK => ?_)) noB_ok)
      · exact pD1 (L := L) hwd (fun _ _ _ => rfl) rfl rfl hcs hn9 hc9 hw1 hK
      · exact pR1 (L := L) (l := l) (a := a) hwr (fun _ _ _ => rfl) rfl rfl hcs hn9 hc9 hw2 hlr hlr9 hK
    (with_reducible refine regionB [39, 40] (T := fun _ => tabY [] []) (H := fun _ => []) (B := fun _ => [oneB 39 [.ref 0 0 0, .d (.sc (.string nm)), .d (.sc (.int .i64 j))] [dB q (.view 3 2 v 0 n) o a l, rB q (.view 3 3 u 0 n) o false lr, fB cs v, gB cs u, ⟨45, [.d (.sc (.int .i64 k)), .d (.sc (.int .i64 j)), .d (.sc (.string nm)), .d (.sc (.string to)), .d (.slc 1 d), .d (.slc 1 xs)], false, 0, true⟩] (.d (.sc (.int .i64 e))) [dB q9 (.view 3 2 w1 0 n9) o9 a9 l9, rB q (.view 3 3 u 0 n) o false lr, fB c9 w1, gB cs u, ⟨45, [.d (.sc (.int .i64 k)), .d (.sc (.int .i64 j)), .d (.sc (.string nm)), .d (.sc (.string to)), .d (.slc 1 d), .d (.slc 1 xs)], false, 0, true⟩], oneB 40 [.ref 1 0 0, .d (.sc (.string nm)), .d (.sc (.int .i64 j))] [dB q9 (.view 3 2 w1 0 n9) o9 a9 l9, rB q (.view 3 3 u 0 n) o false lr, fB c9 w1, gB cs u, ⟨45, [.d (.sc (.int .i64 k)), .d (.sc (.int .i64 j)), .d (.sc (.string nm)), .d (.sc (.string to)), .d (.slc 1 d), .d (.slc 1 xs)], false, 0, true⟩] (.d (.sc (.int .i64 e))) [dB q9 (.view 3 2 w1 0 n9) o9 a9 l9, rB q9 (.view 3 3 w2 0 n9) o9 false lr9, fB c9 w1, gB c9 w2, ⟨45, [.d (.sc (.int .i64 k)), .d (.sc (.int .i64 j)), .d (.sc (.string nm)), .d (.sc (.string to)), .d (.slc 1 d), .d (.slc 1 xs)], false, 0, true⟩]]) (A := A) (tabY_ok _ _) hH hB2 follows_mixed hA hX (by kernel_rfl) (by kernel_rfl) ?_) <;> cbv
    clear hB2 hwd hwr
    repeat first
      | (simp only [z1]; cbv)
      | refine And.intro (by
         subst hA hX hW
         clear hH
         first
           | exact trivial
           | exact rfl
           | (intro q; exact q)
           | (intro q; simpa [A0] using q)
           | (intro _; trivial)
           | (show Region.lexB _ _ = true; kernel_rfl)
           | (show turnsB _ = true; kernel_rfl)
           | assumption) ?_
    cbv
    subst hA hX hW
    refine ret_keep [0, 1, 2, 3] rfl ?_
    refine ⟨rfl, some (w1, w2, n9, c9), ?_, ?_⟩
    · rw [hDc]
      exact ⟨hc9, hn9⟩
    · rw [hDc]
      simp [clT, keepSt, pullBox, pullL, pullD, hpl, List.idxOf?, List.findIdx?_cons]
      try exact hlr9
  have r3 : A.cmp .eql k 3 = false := by subst hA; exact decide_eq_false hk3
  cbv at r3
  by_cases hk4 : k = 4
  · have r4 : A.cmp .eql k 4 = true := by subst hA; exact decide_eq_true hk4
    cbv at r4
    obtain ⟨e, q9, L9, o9, a9, l9, hy⟩ : ∃ e q9 L9 o9 a9 l9, (Dk.mk q L o a l).ren nm to = (e, ⟨q9, L9, o9, a9, l9⟩) := ⟨_, _, _, _, _, _, rfl⟩
    have z1 : A.cmp .eql e e = true := by subst hA; exact decide_eq_true rfl
    cbv at z1
    have hDc : (Dk.mk q L o a l).call ⟨k, j, nm, to, d, xs⟩ js = ⟨q9, L9, o9, a9, l9⟩ := by
      unfold Dk.call
      simp only [hk4, (by decide : ¬ ((4 : Int) = 1)), (by decide : ¬ ((4 : Int) = 2)), (by decide : ¬ ((4 : Int) = 3))]
      first
        | exact congrArg Prod.snd hy
        | (simp only [if_true, if_false]; exact congrArg Prod.snd hy)
        | (simp; rw [hy])
    obtain ⟨n9, hn9⟩ : ∃ z, z = L9.length := ⟨_, rfl⟩
    obtain ⟨c9, hc9⟩ : ∃ z, z = cellsF L9 := ⟨_, rfl⟩
    obtain ⟨lr9, hlr9⟩ : ∃ z, z = rlf a9 l9 := ⟨_, rfl⟩
    have hpl : ∀ κ, pullL κ c9 = c9 := fun κ => by rw [hc9, pullL_eq]; exact pull_rows κ _
    repeat first
      | (simp only [r1, r2, r3, r4]; cbv)
      | refine And.intro (by
         subst hA hX hW
         clear hH
         first
           | exact trivial
           | exact rfl
           | (intro q; exact q)
           | (intro q; simpa [A0] using q)
           | (intro _; trivial)
           | (show Region.lexB _ _ = true; kernel_rfl)
           | (show turnsB _ = true; kernel_rfl)
           | assumption) ?_
    refine pauseL hX (s' := [(0, .ref 0 0 0), (1, .ref 1 0 0), (5, .ref 4 0 0)]) (st' := [dB q (.view 3 2 v 0 n) o a l, rB q (.view 3 3 u 0 n) o false lr, fB cs v, gB cs u, ⟨45, [.d (.sc (.int .i64 k)), .d (.sc (.int .i64 j)), .d (.sc (.string nm)), .d (.sc (.string to)), .d (.slc 1 d), .d (.slc 1 xs)], false, 0, true⟩]) (told_less (by simp [toldP, getS])) ?_
    obtain ⟨w1, hw1⟩ : ∃ z, z = v + 9 := ⟨_, rfl⟩
    obtain ⟨w2, hw2⟩ : ∃ z, z = u + 9 := ⟨_, rfl⟩
    have hwd := w_ren q (some (v, n, cs)) o a l L nm to hfr hD hto
    have hwr := w_rren q (some (u, n, cs)) o a l lr L nm to hfr hD hs hlr hto
    rw [hy] at hwd hwr
    have hB2 : SoundB Try.prog [oneB 23 [.ref 0 0 0, .d (.sc (.string nm)), .d (.sc (.string to))] [dB q (.view 3 2 v 0 n) o a l, rB q (.view 3 3 u 0 n) o false lr, fB cs v, gB cs u, ⟨45, [.d (.sc (.int .i64 k)), .d (.sc (.int .i64 j)), .d (.sc (.string nm)), .d (.sc (.string to)), .d (.slc 1 d), .d (.slc 1 xs)], false, 0, true⟩] (.d (.sc (.int .i64 e))) [dB q9 (.view 3 2 w1 0 n9) o9 a9 l9, rB q (.view 3 3 u 0 n) o false lr, fB c9 w1, gB cs u, ⟨45, [.d (.sc (.int .i64 k)), .d (.sc (.int .i64 j)), .d (.sc (.string nm)), .d (.sc (.string to)), .d (.slc 1 d), .d (.slc 1 xs)], false, 0, true⟩], oneB 41 [.ref 1 0 0, .d (.sc (.string nm)), .d (.sc (.string to))] [dB q9 (.view 3 2 w1 0 n9) o9 a9 l9, rB q (.view 3 3 u 0 n) o false lr, fB c9 w1, gB cs u, ⟨45, [.d (.sc (.int .i64 k)), .d (.sc (.int .i64 j)), .d (.sc (.string nm)), .d (.sc (.string to)), .d (.slc 1 d), .d (.slc 1 xs)], false, 0, true⟩] (.d (.sc (.int .i64 e))) [dB q9 (.view 3 2 w1 0 n9) o9 a9 l9, rB q9 (.view 3 3 w2 0 n9) o9 false lr9, fB c9 w1, gB c9 w2, ⟨45, [.d (.sc (.int .i64 k)), .d (.sc (.int .i64 j)), .d (.sc (.string nm)), .d (.sc (.string to)), .d (.slc 1 d), .d (.slc 1 xs)], false, 0, true⟩]] := by
      refine orB_ok (oneB_ok (fun K hK => ?_)) (orB_ok (oneB_ok (fun K hK => ?_)) noB_ok)
      · exact pD1 (L := L) hwd (fun _ _ _ => rfl) rfl rfl hcs hn9 hc9 hw1 hK
      · exact pR1 (L := L) (l := l) (a := a) hwr (fun _ _ _ => rfl) rfl rfl hcs hn9 hc9 hw2 hlr hlr9 hK
    (with_reducible refine regionB [23, 41] (T := fun _ => tabY [] []) (H := fun _ => []) (B := fun _ => [oneB 23 [.ref 0 0 0, .d (.sc (.string nm)), .d (.sc (.string to))] [dB q (.view 3 2 v 0 n) o a l, rB q (.view 3 3 u 0 n) o false lr, fB cs v, gB cs u, ⟨45, [.d (.sc (.int .i64 k)), .d (.sc (.int .i64 j)), .d (.sc (.string nm)), .d (.sc (.string to)), .d (.slc 1 d), .d (.slc 1 xs)], false, 0, true⟩] (.d (.sc (.int .i64 e))) [dB q9 (.view 3 2 w1 0 n9) o9 a9 l9, rB q (.view 3 3 u 0 n) o false lr, fB c9 w1, gB cs u, ⟨45, [.d (.sc (.int .i64 k)), .d (.sc (.int .i64 j)), .d (.sc (.string nm)), .d (.sc (.string to)), .d (.slc 1 d), .d (.slc 1 xs)], false, 0, true⟩], oneB 41 [.ref 1 0 0, .d (.sc (.string nm)), .d (.sc (.string to))] [dB q9 (.view 3 2 w1 0 n9) o9 a9 l9, rB q (.view 3 3 u 0 n) o false lr, fB c9 w1, gB cs u, ⟨45, [.d (.sc (.int .i64 k)), .d (.sc (.int .i64 j)), .d (.sc (.string nm)), .d (.sc (.string to)), .d (.slc 1 d), .d (.slc 1 xs)], false, 0, true⟩] (.d (.sc (.int .i64 e))) [dB q9 (.view 3 2 w1 0 n9) o9 a9 l9, rB q9 (.view 3 3 w2 0 n9) o9 false lr9, fB c9 w1, gB c9 w2, ⟨45, [.d (.sc (.int .i64 k)), .d (.sc (.int .i64 j)), .d (.sc (.string nm)), .d (.sc (.string to)), .d (.slc 1 d), .d (.slc 1 xs)], false, 0, true⟩]]) (A := A) (tabY_ok _ _) hH hB2 follows_mixed hA hX (by kernel_rfl) (by kernel_rfl) ?_) <;> cbv
    clear hB2 hwd hwr
    repeat first
      | (simp only [z1]; cbv)
      | refine And.intro (by
         subst hA hX hW
         clear hH
         first
           | exact trivial
           | exact rfl
           | (intro q; exact q)
           | (intro q; simpa [A0] using q)
           | (intro _; trivial)
           | (show Region.lexB _ _ = true; kernel_rfl)
           | (show turnsB _ = true; kernel_rfl)
           | assumption) ?_
    cbv
    subst hA hX hW
    refine ret_keep [0, 1, 2, 3] rfl ?_
    refine ⟨rfl, some (w1, w2, n9, c9), ?_, ?_⟩
    · rw [hDc]
      exact ⟨hc9, hn9⟩
    · rw [hDc]
      simp [clT, keepSt, pullBox, pullL, pullD, hpl, List.idxOf?, List.findIdx?_cons]
      try exact hlr9
  have r4 : A.cmp .eql k 4 = false := by subst hA; exact decide_eq_false hk4
  cbv at r4
  by_cases hk5 : k = 5
  · have r5 : A.cmp .eql k 5 = true := by subst hA; exact decide_eq_true hk5
    cbv at r5
    obtain ⟨e, q9, L9, o9, a9, l9, hy⟩ : ∃ e q9 L9 o9 a9 l9, (Dk.mk q L o a l).rem nm = (e, ⟨q9, L9, o9, a9, l9⟩) := ⟨_, _, _, _, _, _, rfl⟩
    have z1 : A.cmp .eql e e = true := by subst hA; exact decide_eq_true rfl
    cbv at z1
    have hDc : (Dk.mk q L o a l).call ⟨k, j, nm, to, d, xs⟩ js = ⟨q9, L9, o9, a9, l9⟩ := by
      unfold Dk.call
      simp only [hk5, (by decide : ¬ ((5 : Int) = 1)), (by decide : ¬ ((5 : Int) = 2)), (by decide : ¬ ((5 : Int) = 3)), (by decide : ¬ ((5 : Int) = 4))]
      first
        | exact congrArg Prod.snd hy
        | (simp only [if_true, if_false]; exact congrArg Prod.snd hy)
        | (simp; rw [hy])
    obtain ⟨n9, hn9⟩ : ∃ z, z = L9.length := ⟨_, rfl⟩
    obtain ⟨c9, hc9⟩ : ∃ z, z = cellsF L9 := ⟨_, rfl⟩
    obtain ⟨lr9, hlr9⟩ : ∃ z, z = rlf a9 l9 := ⟨_, rfl⟩
    have hpl : ∀ κ, pullL κ c9 = c9 := fun κ => by rw [hc9, pullL_eq]; exact pull_rows κ _
    repeat first
      | (simp only [r1, r2, r3, r4, r5]; cbv)
      | refine And.intro (by
         subst hA hX hW
         clear hH
         first
           | exact trivial
           | exact rfl
           | (intro q; exact q)
           | (intro q; simpa [A0] using q)
           | (intro _; trivial)
           | (show Region.lexB _ _ = true; kernel_rfl)
           | (show turnsB _ = true; kernel_rfl)
           | assumption) ?_
    refine pauseL hX (s' := [(0, .ref 0 0 0), (1, .ref 1 0 0), (5, .ref 4 0 0)]) (st' := [dB q (.view 3 2 v 0 n) o a l, rB q (.view 3 3 u 0 n) o false lr, fB cs v, gB cs u, ⟨45, [.d (.sc (.int .i64 k)), .d (.sc (.int .i64 j)), .d (.sc (.string nm)), .d (.sc (.string to)), .d (.slc 1 d), .d (.slc 1 xs)], false, 0, true⟩]) (told_less (by simp [toldP, getS])) ?_
    obtain ⟨w1, hw1⟩ : ∃ z, z = v + 9 := ⟨_, rfl⟩
    obtain ⟨w2, hw2⟩ : ∃ z, z = u + 9 := ⟨_, rfl⟩
    have hwd := w_rem q (some (v, n, cs)) o a l L nm hfr hD
    have hwr := w_rrem q (some (u, n, cs)) o a l lr L nm hfr hD hs hlr
    rw [hy] at hwd hwr
    have hB2 : SoundB Try.prog [oneB 21 [.ref 0 0 0, .d (.sc (.string nm))] [dB q (.view 3 2 v 0 n) o a l, rB q (.view 3 3 u 0 n) o false lr, fB cs v, gB cs u, ⟨45, [.d (.sc (.int .i64 k)), .d (.sc (.int .i64 j)), .d (.sc (.string nm)), .d (.sc (.string to)), .d (.slc 1 d), .d (.slc 1 xs)], false, 0, true⟩] (.d (.sc (.int .i64 e))) [dB q9 (.view 3 2 w1 0 n9) o9 a9 l9, rB q (.view 3 3 u 0 n) o false lr, fB c9 w1, gB cs u, ⟨45, [.d (.sc (.int .i64 k)), .d (.sc (.int .i64 j)), .d (.sc (.string nm)), .d (.sc (.string to)), .d (.slc 1 d), .d (.slc 1 xs)], false, 0, true⟩], oneB 42 [.ref 1 0 0, .d (.sc (.string nm))] [dB q9 (.view 3 2 w1 0 n9) o9 a9 l9, rB q (.view 3 3 u 0 n) o false lr, fB c9 w1, gB cs u, ⟨45, [.d (.sc (.int .i64 k)), .d (.sc (.int .i64 j)), .d (.sc (.string nm)), .d (.sc (.string to)), .d (.slc 1 d), .d (.slc 1 xs)], false, 0, true⟩] (.d (.sc (.int .i64 e))) [dB q9 (.view 3 2 w1 0 n9) o9 a9 l9, rB q9 (.view 3 3 w2 0 n9) o9 false lr9, fB c9 w1, gB c9 w2, ⟨45, [.d (.sc (.int .i64 k)), .d (.sc (.int .i64 j)), .d (.sc (.string nm)), .d (.sc (.string to)), .d (.slc 1 d), .d (.slc 1 xs)], false, 0, true⟩]] := by
      refine orB_ok (oneB_ok (fun K hK => ?_)) (orB_ok (oneB_ok (fun K hK => ?_)) noB_ok)
      · exact pD1 (L := L) hwd (fun _ _ _ => rfl) rfl rfl hcs hn9 hc9 hw1 hK
      · exact pR1 (L := L) (l := l) (a := a) hwr (fun _ _ _ => rfl) rfl rfl hcs hn9 hc9 hw2 hlr hlr9 hK
    (with_reducible refine regionB [21, 42] (T := fun _ => tabY [] []) (H := fun _ => []) (B := fun _ => [oneB 21 [.ref 0 0 0, .d (.sc (.string nm))] [dB q (.view 3 2 v 0 n) o a l, rB q (.view 3 3 u 0 n) o false lr, fB cs v, gB cs u, ⟨45, [.d (.sc (.int .i64 k)), .d (.sc (.int .i64 j)), .d (.sc (.string nm)), .d (.sc (.string to)), .d (.slc 1 d), .d (.slc 1 xs)], false, 0, true⟩] (.d (.sc (.int .i64 e))) [dB q9 (.view 3 2 w1 0 n9) o9 a9 l9, rB q (.view 3 3 u 0 n) o false lr, fB c9 w1, gB cs u, ⟨45, [.d (.sc (.int .i64 k)), .d (.sc (.int .i64 j)), .d (.sc (.string nm)), .d (.sc (.string to)), .d (.slc 1 d), .d (.slc 1 xs)], false, 0, true⟩], oneB 42 [.ref 1 0 0, .d (.sc (.string nm))] [dB q9 (.view 3 2 w1 0 n9) o9 a9 l9, rB q (.view 3 3 u 0 n) o false lr, fB c9 w1, gB cs u, ⟨45, [.d (.sc (.int .i64 k)), .d (.sc (.int .i64 j)), .d (.sc (.string nm)), .d (.sc (.string to)), .d (.slc 1 d), .d (.slc 1 xs)], false, 0, true⟩] (.d (.sc (.int .i64 e))) [dB q9 (.view 3 2 w1 0 n9) o9 a9 l9, rB q9 (.view 3 3 w2 0 n9) o9 false lr9, fB c9 w1, gB c9 w2, ⟨45, [.d (.sc (.int .i64 k)), .d (.sc (.int .i64 j)), .d (.sc (.string nm)), .d (.sc (.string to)), .d (.slc 1 d), .d (.slc 1 xs)], false, 0, true⟩]]) (A := A) (tabY_ok _ _) hH hB2 follows_mixed hA hX (by kernel_rfl) (by kernel_rfl) ?_) <;> cbv
    clear hB2 hwd hwr
    repeat first
      | (simp only [z1]; cbv)
      | refine And.intro (by
         subst hA hX hW
         clear hH
         first
           | exact trivial
           | exact rfl
           | (intro q; exact q)
           | (intro q; simpa [A0] using q)
           | (intro _; trivial)
           | (show Region.lexB _ _ = true; kernel_rfl)
           | (show turnsB _ = true; kernel_rfl)
           | assumption) ?_
    cbv
    subst hA hX hW
    refine ret_keep [0, 1, 2, 3] rfl ?_
    refine ⟨rfl, some (w1, w2, n9, c9), ?_, ?_⟩
    · rw [hDc]
      exact ⟨hc9, hn9⟩
    · rw [hDc]
      simp [clT, keepSt, pullBox, pullL, pullD, hpl, List.idxOf?, List.findIdx?_cons]
      try exact hlr9
  have r5 : A.cmp .eql k 5 = false := by subst hA; exact decide_eq_false hk5
  cbv at r5
  by_cases hk6 : k = 6
  · have r6 : A.cmp .eql k 6 = true := by subst hA; exact decide_eq_true hk6
    cbv at r6
    obtain ⟨l9, h69⟩ : ∃ z, max j 0 = z := ⟨_, rfl⟩
    obtain ⟨a9, ha9⟩ : ∃ z, decide (0 ≤ j) = z := ⟨_, rfl⟩
    have hDc : (Dk.mk q L o a l).call ⟨k, j, nm, to, d, xs⟩ js = ⟨q, L, o, a9, l9⟩ := by
      unfold Dk.call
      rw [← h69, ← ha9]
      simp [hk6]
    have z1 : A.cmp .eql 6 6 = true := by subst hA; rfl
    cbv at z1
    obtain ⟨n9, hn9⟩ : ∃ z, z = L.length := ⟨_, rfl⟩
    obtain ⟨c9, hc9⟩ : ∃ z, z = cellsF L := ⟨_, rfl⟩
    obtain ⟨lr9, hlr9⟩ : ∃ z, z = rlf a9 l9 := ⟨_, rfl⟩
    have hpl : ∀ κ, pullL κ c9 = c9 := fun κ => by rw [hc9, pullL_eq]; exact pull_rows κ _
    repeat first
      | (simp only [r1, r2, r3, r4, r5, r6]; cbv)
      | refine And.intro (by
         subst hA hX hW
         clear hH
         first
           | exact trivial
           | exact rfl
           | (intro q; exact q)
           | (intro q; simpa [A0] using q)
           | (intro _; trivial)
           | (show Region.lexB _ _ = true; kernel_rfl)
           | (show turnsB _ = true; kernel_rfl)
           | assumption) ?_
    refine pauseL hX (s' := [(0, .ref 0 0 0), (1, .ref 1 0 0), (5, .ref 4 0 0)]) (st' := [dB q (.view 3 2 v 0 n) o a l, rB q (.view 3 3 u 0 n) o false lr, fB cs v, gB cs u, ⟨45, [.d (.sc (.int .i64 k)), .d (.sc (.int .i64 j)), .d (.sc (.string nm)), .d (.sc (.string to)), .d (.slc 1 d), .d (.slc 1 xs)], false, 0, true⟩]) (told_less (by simp [toldP, getS])) ?_
    obtain ⟨w1, hw1⟩ : ∃ z, z = v + 9 := ⟨_, rfl⟩
    obtain ⟨w2, hw2⟩ : ∃ z, z = u + 9 := ⟨_, rfl⟩
    have hwd := armD q (some (v, n, cs)) o a l L j hfr
    have hwr := armR q (some (u, n, cs)) o a lr L j hfr
    rw [h69, ha9] at hwd hwr
    with_reducible refine goL (T := fun _ => tabY [] []) (H := fun _ => []) (tabY_ok _ _) hH follows_mixed hA hX ?_
    cbv
    repeat first
      | (simp only [z1]; cbv)
      | refine And.intro (by
         subst hA hX hW
         clear hH
         first
           | exact trivial
           | exact rfl
           | (intro q; exact q)
           | (intro q; simpa [A0] using q)
           | (intro _; trivial)
           | (show Region.lexB _ _ = true; kernel_rfl)
           | (show turnsB _ = true; kernel_rfl)
           | assumption) ?_
    refine callL hX (pD1 (L := L) hwd (fun _ _ _ => rfl) rfl rfl hcs hn9 hc9 hw1 ?_)
    cbv
    refine pauseL hX (s' := [(0, .ref 0 0 0), (1, .ref 1 0 0), (5, .ref 4 0 0)]) (st' := [dB q (.view 3 2 w1 0 n9) o a9 l9, rB q (.view 3 3 u 0 n) o false lr, fB c9 w1, gB cs u, ⟨45, [.d (.sc (.int .i64 k)), .d (.sc (.int .i64 j)), .d (.sc (.string nm)), .d (.sc (.string to)), .d (.slc 1 d), .d (.slc 1 xs)], false, 0, true⟩]) (told_less (by simp [toldP, getS])) ?_
    with_reducible refine goL (T := fun _ => tabY [] []) (H := fun _ => []) (tabY_ok _ _) hH follows_mixed hA hX ?_
    cbv
    repeat first
      | (simp only [z1]; cbv)
      | refine And.intro (by
         subst hA hX hW
         clear hH
         first
           | exact trivial
           | exact rfl
           | (intro q; exact q)
           | (intro q; simpa [A0] using q)
           | (intro _; trivial)
           | (show Region.lexB _ _ = true; kernel_rfl)
           | (show turnsB _ = true; kernel_rfl)
           | assumption) ?_
    refine callL hX (pR1 (L := L) (l := l) (a := a) hwr (fun _ _ _ => rfl) rfl rfl hcs hn9 hc9 hw2 hlr hlr9 ?_)
    cbv
    repeat first
      | (simp only [z1]; cbv)
      | refine And.intro (by
         subst hA hX hW
         clear hH
         first
           | exact trivial
           | exact rfl
           | (intro q; exact q)
           | (intro q; simpa [A0] using q)
           | (intro _; trivial)
           | (show Region.lexB _ _ = true; kernel_rfl)
           | (show turnsB _ = true; kernel_rfl)
           | assumption) ?_
    cbv
    subst hA hX hW
    refine ret_keep [0, 1, 2, 3] rfl ?_
    refine ⟨rfl, some (w1, w2, n9, c9), ?_, ?_⟩
    · rw [hDc]
      exact ⟨hc9, hn9⟩
    · rw [hDc]
      simp [clT, keepSt, pullBox, pullL, pullD, hpl, List.idxOf?, List.findIdx?_cons]
      try exact hlr9
  have r6 : A.cmp .eql k 6 = false := by subst hA; exact decide_eq_false hk6
  cbv at r6
  by_cases hk7 : k = 7
  · have r7 : A.cmp .eql k 7 = true := by subst hA; exact decide_eq_true hk7
    cbv at r7
    obtain ⟨q9, L9, o9, a9, l9, hy⟩ : ∃ q9 L9 o9 a9 l9, (Dk.mk q L o a l).crash js = ⟨q9, L9, o9, a9, l9⟩ := ⟨_, _, _, _, _, rfl⟩
    have hDc : (Dk.mk q L o a l).call ⟨k, j, nm, to, d, xs⟩ js = ⟨q9, L9, o9, a9, l9⟩ := by
      unfold Dk.call
      simp only [hk7]
      simp
      exact hy
    have z1 : A.cmp .eql 7 7 = true := by subst hA; rfl
    cbv at z1
    obtain ⟨n9, hn9⟩ : ∃ z, z = L9.length := ⟨_, rfl⟩
    obtain ⟨c9, hc9⟩ : ∃ z, z = cellsF L9 := ⟨_, rfl⟩
    obtain ⟨lr9, hlr9⟩ : ∃ z, z = rlf a9 l9 := ⟨_, rfl⟩
    have hpl : ∀ κ, pullL κ c9 = c9 := fun κ => by rw [hc9, pullL_eq]; exact pull_rows κ _
    repeat first
      | (simp only [r1, r2, r3, r4, r5, r6, r7]; cbv)
      | refine And.intro (by
         subst hA hX hW
         clear hH
         first
           | exact trivial
           | exact rfl
           | (intro q; exact q)
           | (intro q; simpa [A0] using q)
           | (intro _; trivial)
           | (show Region.lexB _ _ = true; kernel_rfl)
           | (show turnsB _ = true; kernel_rfl)
           | assumption) ?_
    refine pauseL hX (s' := [(0, .ref 0 0 0), (1, .ref 1 0 0), (5, .ref 4 0 0)]) (st' := [dB q (.view 3 2 v 0 n) o a l, rB q (.view 3 3 u 0 n) o false lr, fB cs v, gB cs u, ⟨45, [.d (.sc (.int .i64 k)), .d (.sc (.int .i64 j)), .d (.sc (.string nm)), .d (.sc (.string to)), .d (.slc 1 d), .d (.slc 1 xs)], false, 0, true⟩]) (told_less (by simp [toldP, getS])) ?_
    obtain ⟨w1, hw1⟩ : ∃ z, z = v + 9 := ⟨_, rfl⟩
    obtain ⟨w2, hw2⟩ : ∃ z, z = u + 9 := ⟨_, rfl⟩
    have hwd := w_crash q (some (v, n, cs)) o a l L js hfr hD hj1 hj2
    have hwr := crashR q (some (u, n, cs)) o a l lr L js hfr hD hj1 hj2
    rw [hy, ← hjx] at hwd hwr
    with_reducible refine goL (T := fun _ => tabY [] []) (H := fun _ => []) (tabY_ok _ _) hH follows_mixed hA hX ?_
    cbv
    repeat first
      | (simp only [z1]; cbv)
      | refine And.intro (by
         subst hA hX hW
         clear hH
         first
           | exact trivial
           | exact rfl
           | (intro q; exact q)
           | (intro q; simpa [A0] using q)
           | (intro _; trivial)
           | (show Region.lexB _ _ = true; kernel_rfl)
           | (show turnsB _ = true; kernel_rfl)
           | assumption) ?_
    refine callL hX (pD1 (L := L) hwd (fun _ _ _ => rfl) rfl rfl hcs hn9 hc9 hw1 ?_)
    cbv
    refine pauseL hX (s' := [(0, .ref 0 0 0), (1, .ref 1 0 0), (5, .ref 4 0 0)]) (st' := [dB q9 (.view 3 2 w1 0 n9) o9 a9 l9, rB q (.view 3 3 u 0 n) o false lr, fB c9 w1, gB cs u, ⟨45, [.d (.sc (.int .i64 k)), .d (.sc (.int .i64 j)), .d (.sc (.string nm)), .d (.sc (.string to)), .d (.slc 1 d), .d (.slc 1 xs)], false, 0, true⟩]) (told_less (by simp [toldP, getS])) ?_
    with_reducible refine goL (T := fun _ => tabY [] []) (H := fun _ => []) (tabY_ok _ _) hH follows_mixed hA hX ?_
    cbv
    repeat first
      | (simp only [z1]; cbv)
      | refine And.intro (by
         subst hA hX hW
         clear hH
         first
           | exact trivial
           | exact rfl
           | (intro q; exact q)
           | (intro q; simpa [A0] using q)
           | (intro _; trivial)
           | (show Region.lexB _ _ = true; kernel_rfl)
           | (show turnsB _ = true; kernel_rfl)
           | assumption) ?_
    refine callL hX (pR1 (L := L) (l := l) (a := a) hwr (fun _ _ _ => rfl) rfl rfl hcs hn9 hc9 hw2 hlr hlr9 ?_)
    cbv
    repeat first
      | (simp only [z1]; cbv)
      | refine And.intro (by
         subst hA hX hW
         clear hH
         first
           | exact trivial
           | exact rfl
           | (intro q; exact q)
           | (intro q; simpa [A0] using q)
           | (intro _; trivial)
           | (show Region.lexB _ _ = true; kernel_rfl)
           | (show turnsB _ = true; kernel_rfl)
           | assumption) ?_
    cbv
    subst hA hX hW
    refine ret_keep [0, 1, 2, 3] rfl ?_
    refine ⟨rfl, some (w1, w2, n9, c9), ?_, ?_⟩
    · rw [hDc]
      exact ⟨hc9, hn9⟩
    · rw [hDc]
      simp [clT, keepSt, pullBox, pullL, pullD, hpl, List.idxOf?, List.findIdx?_cons]
      try exact hlr9
  have r7 : A.cmp .eql k 7 = false := by subst hA; exact decide_eq_false hk7
  cbv at r7
  have hpl0 : ∀ κ, pullL κ cs = cs := fun κ => by rw [hcs, pullL_eq]; exact pull_rows κ _
  repeat first
    | (simp only [r1, r2, r3, r4, r5, r6, r7]; cbv)
    | refine And.intro (by
       subst hA hX hW
       clear hH
       first
         | exact trivial
         | exact rfl
         | (intro q; exact q)
         | (intro q; simpa [A0] using q)
         | (intro _; trivial)
         | (show Region.lexB _ _ = true; kernel_rfl)
         | (show turnsB _ = true; kernel_rfl)
         | assumption) ?_
  have hDc : (Dk.mk q L o a l).call ⟨k, j, nm, to, d, xs⟩ js = ⟨q, L, o, a, l⟩ := by
    unfold Dk.call
    simp [hk1, hk2, hk3, hk4, hk5, hk6, hk7]
  subst hA hX hW
  refine ret_keep [0, 1, 2, 3] rfl ⟨rfl, some (v, u, n, cs), by rw [hDc]; exact hfr, ?_⟩
  rw [hDc]
  simp [clT, keepSt, pullBox, pullL, pullD, List.idxOf?, List.findIdx?_cons, hpl0]
  try exact hlr
end Go.Proofs.Ytmjmbfcfnhnpmaa
