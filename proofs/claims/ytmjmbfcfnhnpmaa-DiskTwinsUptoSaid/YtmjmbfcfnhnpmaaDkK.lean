/- Two disks that are told the same are the same; what was told and read may be turned later: the law's walk. No condition. -/
import Derived.Test.YtmjmbfcfnhnpmaaDkWF
import Derived.Test.YtmjmbfcfnhnpmaaDkRQ
namespace Go.Proofs.Ytmjmbfcfnhnpmaa
open Go.RowKit
set_option linter.all false
set_option maxHeartbeats 8000000
def u8L (ns : List Int) : List DV := ns.map fun n => .d (.sc (.int .u8 n))
theorem u8_bytes (bs : List UInt8) : ∃ ns, rowsD (bytesP bs) = u8L ns ∧ ns.length = bs.length := by
  refine ⟨bs.map fun b => (b.toNat : Int), ?_, by simp⟩
  induction bs with
  | nil => rfl
  | cons b bs ih =>
    have e : rowsD (bytesP (b :: bs)) = .d (.sc (.int .u8 b.toNat)) :: rowsD (bytesP bs) := rfl
    rw [e, ih]
    rfl
theorem u8_at {ns : List Int} {j : Nat} (h : j < ns.length) : ∃ x, (u8L ns)[j]? = some (.d (.sc (.int .u8 x))) ∧ (u8L ns).drop j = .d (.sc (.int .u8 x)) :: (u8L ns).drop (j + 1) := by
  refine ⟨ns[j], by simp [u8L, h], ?_⟩
  have h2 : j < (u8L ns).length := by simp [u8L, h]
  rw [List.drop_eq_getElem_cons h2]
  simp [u8L]
theorem u8_set {ns : List Int} {j : Nat} (h : j < ns.length) (x : Int) : ∃ ms, splice (u8L ns) j [.d (.sc (.int .u8 x))] = u8L ms ∧ ms.length = ns.length := by
  refine ⟨ns.set j x, ?_, by simp⟩
  simp only [splice, u8L, List.map_set, List.length_singleton]
  rw [List.set_eq_take_append_cons_drop, if_pos (by simpa using h)]
  simp
theorem u8_pull (κ : List Nat) (ns : List Int) : pullL κ (u8L ns) = u8L ns := by
  rw [pullL_eq, u8L, List.map_map]
  rfl
/-- How the two disks stand. -/
def twT (q : Int) : Option (Nat × Nat × Nat × List DV) → Store
  | none => [dB q (.d (.sc (.slice none 0 0))) false false 0, dB q (.d (.sc (.slice none 0 0))) false false 0]
  | some (vc, vd, nl, cs) => [dB q (.view 3 2 vc 0 nl) false false 0, dB q (.view 3 3 vd 0 nl) false false 0, fB cs vc, fB cs vd]
def twI (L : List FileM) : Option (Nat × Nat × Nat × List DV) → Prop
  | none => L = []
  | some (_, _, nl, cs) => cs = cellsF L ∧ nl = L.length

theorem okqM : (FsL0.okq 1048576) := ⟨by decide, by decide⟩
theorem told_eq8 {k : Nat} {s s' : SL} {st st' : Store} (e : st = st') (h : toldP id s s') : Told k s st s' st' := by subst e; exact told_less h
set_option maxRecDepth 100000 in
theorem v_twins (xs : List (List PD)) (hp0 : isAsks xs) : FnV Try.prog 7 [.d (.slc 6 xs)] (boolD true) := by
  obtain ⟨al, hxs, hall, hal⟩ := hp0
  have hxl : xs.length = al.length := by rw [hxs]; simp [asksX]
  have hrow : ∀ i : Int, 0 ≤ i → i < (xs.length : Int) → ∃ a : AskM, xs.getD i.toNat [] = a.row ∧ okAsk a := by
    intro i h0 h1
    have h2 : i.toNat < al.length := by omega
    refine ⟨al[i.toNat], ?_, hall _ (List.getElem_mem h2)⟩
    subst hxs
    simp [asksX, List.getD_eq_getElem?_getD, h2]
  obtain ⟨GFsRu, hFsRu⟩ : ∃ F, F = FsRu0 := ⟨_, rfl⟩
  obtain ⟨GFsQ, hFsQ⟩ : ∃ F, F = FsQ0 := ⟨_, rfl⟩
  obtain ⟨GFsL, hFsL⟩ : ∃ F, F = FsL0 := ⟨_, rfl⟩
  have hH : SoundK Try.prog [kn_runs GFsRu, kn_same GFsQ] := by subst hFsRu hFsQ hFsL; exact orK_ok ok_runs (orK_ok ok_same noK_ok)
  have hB : SoundB Try.prog [kb_new GFsL] := by subst hFsRu hFsQ hFsL; exact orB_ok okb_new noB_ok
  refine FnD_cbv (T := fun _ => tabY [54] [9, 13, 19, 25, 28, 31, 32, 33, 34, 39, 40]) (H := fun _ => [kn_runs GFsRu, kn_same GFsQ]) (tabY_ok _ _) hH follows_mixed Try.func7 rfl Try.ntmps7 (by simp) fun A X W hA hX hW => ?_
  cbv
  have f1 : A.cmp .neq 0 0 = false := by subst hA; rfl
  cbv at f1
  have f2 : A.cond false true false = false := by subst hA; rfl
  cbv at f2
  have f2b : A.cond false true true = true := by subst hA; rfl
  cbv at f2b
  have f2c : A.cond false false false = false := by subst hA; rfl
  cbv at f2c
  have f2d : A.cond false false true = true := by subst hA; rfl
  cbv at f2d
  have f2e : A.cond true true true = true := by subst hA; rfl
  cbv at f2e
  have f2f : A.cond true false true = false := by subst hA; rfl
  cbv at f2f
  have f3 : A.not true = false := by subst hA; rfl
  cbv at f3
  have f4 : A.not false = true := by subst hA; rfl
  cbv at f4
  have f7 : A.cond true false false = false := by subst hA; rfl
  cbv at f7
  have f8 : A.cond true true false = true := by subst hA; rfl
  cbv at f8
  repeat first
    | (simp only [f1, f2, f2b, f2c, f2d, f2e, f2f, f3, f4, f7, f8]; cbv)
    | refine And.intro (by
         subst hA hX hW hFsQ hFsL hFsRu
         clear hH hB
         first
           | exact trivial
           | exact rfl
           | (simp [A0]; done)
           | (intro q; exact q)
           | (intro q; simpa [A0] using q)
           | (intro _; trivial)
           | (show Region.lexB _ _ = true; kernel_rfl)
           | (show turnsB _ = true; kernel_rfl)
           | assumption
           | exact okqM) ?_
    | ((with_reducible refine callB hX hB ?_); cbv; fail_if_success show False)
    | (refine pickL hX (t := true) (by rfl) rfl ?_; cbv)
    | (refine pickL hX (t := false) (by rfl) rfl ?_; cbv)
  obtain ⟨n, hn0⟩ : ∃ z : Int, z = 1048576 := ⟨_, rfl⟩
  refine loopL (T := fun _ => tabY [54] [9, 13, 19, 25, 28, 31, 32, 33, 34, 39, 40]) (H := fun _ => [kn_runs GFsRu, kn_same GFsQ]) (tabY_ok _ _) hH follows_mixed hA hX (fun x : Int × Option (Nat × Nat × Nat × List DV) × List FileM => (0 ≤ x.1 ∧ x.1 ≤ 40) ∧ okD x.1.toNat ⟨n, x.2.2, false, false, 0⟩ ∧ twI x.2.2 x.2.1) (fun x => [(0, .d (.slc 6 xs)), (3, .ref 0 0 0), (5, .ref 1 0 0), (7, .d (.sc (.int .i64 x.1)))]) (fun x => twT n x.2.1) (fun x => 40 - x.1.toNat) (0, none, []) ?_ ?_ ?_
  · refine ⟨⟨Int.le_refl 0, by decide⟩, ?_, rfl⟩
    rw [hn0]
    exact ⟨⟨by decide, by decide⟩, by decide, by decide, (by intro f hf; cases hf), ⟨by decide, by decide⟩⟩
  · subst hn0
    exact told_less (by simp [toldP, getS])
  rintro R ⟨i, oo, L⟩ hR ⟨⟨i0, i1⟩, hD, hI⟩
  replace i0 : 0 ≤ i := i0
  replace i1 : i ≤ 40 := i1
  replace hD : okD i.toNat ⟨n, L, false, false, 0⟩ := hD
  replace hI : twI L oo := hI
  have hD9 : okD 900 ⟨n, L, false, false, 0⟩ := hD.mono (by omega)
  rcases oo with _ | ⟨vc, vd, nl, cs⟩
  · replace hI : L = [] := hI
    subst hI
    cbv
    by_cases hin : i < (xs.length : Int) ∧ i < 40
    · obtain ⟨hlt, hlt40⟩ := hin
      have t0 : A.cond (A.cmp .lss i (A.len xs)) (A.cmp .lss i 40) false = true := by
        subst hA
        show (bif decide (i < (xs.length : Int)) then decide (i < 40) else false) = true
        rw [decide_eq_true hlt, decide_eq_true hlt40]
        rfl
      cbv at t0
      simp only [t0]
      cbv
      obtain ⟨a, hp0, hok⟩ := hrow i i0 hlt
      obtain ⟨k, j, nm, to, d, ps⟩ := a
      obtain ⟨hk, hj, hnm, hto, hd, hps0⟩ := hok
      replace hd : isB d := hd
      have e0 : A.gi (A.lift (A.row xs i)) 0 = k := by subst hA; simp only [A0, hp0]; rfl
      have e1 : A.gi (A.lift (A.row xs i)) (A.pl 0 1) = j := by subst hA; simp only [A0, hp0]; rfl
      have e2 : A.gs (A.lift (A.row xs i)) (A.pl 0 2) = nm := by subst hA; simp only [A0, hp0]; rfl
      have e3 : A.gs (A.lift (A.row xs i)) (A.pl 0 3) = to := by subst hA; simp only [A0, hp0]; rfl
      have e4 : A.gl (A.lift (A.row xs i)) (A.pl 0 4) = d := by subst hA; simp only [A0, hp0]; rfl
      have e5 : A.gl (A.lift (A.row xs i)) (A.pl 0 5) = ps := by subst hA; simp only [A0, hp0]; rfl
      cbv at e0 e1 e2 e3 e4 e5
      repeat first
        | (simp only [f1, f2, f2b, f2c, f2d, f2e, f2f, f3, f4, f7, f8, e0, e1, e2, e3, e4, e5]; cbv)
        | refine And.intro (by
             subst hA hX hW hFsQ hFsL hFsRu
             clear hH hB
             first
               | exact trivial
               | exact rfl
               | (simp [A0]; done)
               | (intro q; exact q)
               | (intro q; simpa [A0] using q)
               | (intro _; trivial)
               | (show Region.lexB _ _ = true; kernel_rfl)
               | (show turnsB _ = true; kernel_rfl)
               | assumption
               | exact okqM
               | exact ⟨i0, hlt⟩
               | (simp only [A0, hp0]; exact ⟨rfl, Nat.le_refl _, rfl⟩)) ?_
        | ((with_reducible refine callB hX hB ?_); cbv; fail_if_success show False)
        | (refine pickL hX (t := true) (by rfl) rfl ?_; cbv)
        | (refine pickL hX (t := false) (by rfl) rfl ?_; cbv)
      refine pauseL hX (s' := [(0, .d (.slc 6 xs)), (3, .ref 0 0 0), (5, .ref 1 0 0), (7, .d (.sc (.int .i64 i))), (8, .ref 2 0 0)]) (st' := [dB n (.d (.sc (.slice none 0 0))) false false 0, dB n (.d (.sc (.slice none 0 0))) false false 0, ⟨45, [.d (.sc (.int .i64 k)), .d (.sc (.int .i64 j)), .d (.sc (.string nm)), .d (.sc (.string to)), .d (.slc 1 d), .d (.slc 1 ps)], false, 0, true⟩]) (told_less (by simp [toldP, getS])) ?_
      by_cases hsz : d.length ≤ 300 ∧ ps.length ≤ 30
      · obtain ⟨hz1, hz2⟩ := hsz
        have s3 : A.cmp .gtr (A.len d) 300 = false := by subst hA; simp only [A0, decide_eq_false_iff_not]; show ¬ (300 : Int) < (d.length : Int); omega
        have s4 : A.cmp .gtr (A.len ps) 30 = false := by subst hA; simp only [A0, decide_eq_false_iff_not]; show ¬ (30 : Int) < (ps.length : Int); omega
        cbv at s3 s4
        by_cases hk1 : k = 1
        · have r1 : A.cmp .eql k 1 = true := by subst hA; exact decide_eq_true hk1
          cbv at r1
          with_reducible refine goL (T := fun _ => tabY [] []) (H := fun _ => [kn_runs GFsRu, kn_same GFsQ]) (tabY_ok _ _) hH follows_mixed hA hX ?_
          cbv
          repeat first
            | (simp only [f1, f2, f2b, f2c, f2d, f2e, f2f, f3, f4, f7, f8, s3, s4, r1]; cbv)
            | refine And.intro (by
                 subst hA hX hW hFsQ hFsL hFsRu
                 clear hH hB
                 first
                   | exact trivial
                   | exact rfl
                   | (simp [A0]; done)
                   | (intro q; exact q)
                   | (intro q; simpa [A0] using q)
                   | (intro _; trivial)
                   | (show Region.lexB _ _ = true; kernel_rfl)
                   | (show turnsB _ = true; kernel_rfl)
                   | assumption
                   | exact okqM
                   | (show _ ∧ _; simp only [A0]; exact ⟨by omega, by omega⟩)) ?_
            | ((with_reducible refine callB hX hB ?_); cbv; fail_if_success show False)
            | (refine pickL hX (t := true) (by rfl) rfl ?_; cbv)
            | (refine pickL hX (t := false) (by rfl) rfl ?_; cbv)
          obtain ⟨pm, hpm0⟩ : ∃ z, z = A.pl 0 (A.lenN d) := ⟨_, rfl⟩
          obtain ⟨w, hw0⟩ : ∃ z, z = A.nxt 0 := ⟨_, rfl⟩
          obtain ⟨pc, hpc0⟩ : ∃ z, z = A.app [] (A.rows d) := ⟨_, rfl⟩
          have hpm : pm = d.length := by subst hA; rw [hpm0]; exact Nat.zero_add _
          have hpc : pc = rowsD d := by subst hA; rw [hpc0]; rfl
          cbv at hpm0 hw0 hpc0
          obtain ⟨e, L9, hy⟩ := app_some n [] nm d
          have hok9 : okD (i.toNat + 1) ⟨n, L9, false, false, 0⟩ := by
            have h1 := hD.app (name := nm) hd
            rw [hy] at h1
            exact h1
          have hok900 : okD 900 ⟨n, L9, false, false, 0⟩ := hok9.mono (by omega)
          have z1 : A.cmp .neq e e = false := by subst hA; show (!decide (e = e)) = false; rw [decide_eq_true rfl]; rfl
          cbv at z1
          have hu8 : ∃ ns, pc = u8L ns ∧ ns.length = pm := by
            obtain ⟨bs, hb1, _⟩ := hd
            obtain ⟨ns, h1, h2⟩ := u8_bytes bs
            exact ⟨ns, by rw [hpc, hb1]; exact h1, by rw [h2, hpm, hb1, bytesP_length]⟩
          refine pauseL hX (s' := [(0, .d (.slc 6 xs)), (3, .ref 0 0 0), (5, .ref 1 0 0), (7, .d (.sc (.int .i64 i))), (8, .ref 2 0 0), (9, .view 1 3 w 0 pm)]) (st' := [dB n (.d (.sc (.slice none 0 0))) false false 0, dB n (.d (.sc (.slice none 0 0))) false false 0, ⟨45, [.d (.sc (.int .i64 k)), .d (.sc (.int .i64 j)), .d (.sc (.string nm)), .d (.sc (.string to)), .d (.slc 1 d), .d (.slc 1 ps)], false, 0, true⟩, ⟨5, pc, true, w, true⟩]) (told_eq8 (by rw [hpc0, hw0]) ?_) ?_
          · simp [toldP, getS, hw0, hpm0]
          obtain ⟨n9, hn9⟩ : ∃ z, z = L9.length := ⟨_, rfl⟩
          obtain ⟨c9, hc9⟩ : ∃ z, z = cellsF L9 := ⟨_, rfl⟩
          by_cases hL0 : L9 = []
          · have hB2 : SoundB Try.prog [twoB 11 0 [.ref 0 0 0, .d (.sc (.string nm)), .view 1 3 w 0 pm] [.ref 1 0 0, .d (.sc (.string nm)), .d (.slc 1 d)] [dB n (.d (.sc (.slice none 0 0))) false false 0, dB n (.d (.sc (.slice none 0 0))) false false 0, ⟨45, [.d (.sc (.int .i64 k)), .d (.sc (.int .i64 j)), .d (.sc (.string nm)), .d (.sc (.string to)), .d (.slc 1 d), .d (.slc 1 ps)], false, 0, true⟩, ⟨5, pc, true, w, true⟩] [dB n (.d (.sc (.slice none 0 0))) false false 0, dB n (.d (.sc (.slice none 0 0))) false false 0, ⟨45, [.d (.sc (.int .i64 k)), .d (.sc (.int .i64 j)), .d (.sc (.string nm)), .d (.sc (.string to)), .d (.slc 1 d), .d (.slc 1 ps)], false, 0, true⟩, ⟨5, pc, true, w, true⟩] (.d (.sc (.int .i64 e))) (.d (.sc (.int .i64 e))) [dB n (.d (.sc (.slice none 0 0))) false false 0, dB n (.d (.sc (.slice none 0 0))) false false 0, ⟨45, [.d (.sc (.int .i64 k)), .d (.sc (.int .i64 j)), .d (.sc (.string nm)), .d (.sc (.string to)), .d (.slc 1 d), .d (.slc 1 ps)], false, 0, true⟩, ⟨5, pc, true, w, true⟩] [dB n (.d (.sc (.slice none 0 0))) false false 0, dB n (.d (.sc (.slice none 0 0))) false false 0, ⟨45, [.d (.sc (.int .i64 k)), .d (.sc (.int .i64 j)), .d (.sc (.string nm)), .d (.sc (.string to)), .d (.slc 1 d), .d (.slc 1 ps)], false, 0, true⟩, ⟨5, pc, true, w, true⟩]] := by
              refine orB_ok (twoB_ok (fun K hK => ?_) (fun K hK => ?_)) noB_ok
              · exact appVA0 nm d 0 3 rfl rfl (by decide) hD9 hnm hd hpc hpm hy (by rw [if_pos hL0]; exact hK)
              · exact appA0 nm d 1 rfl hD9 hnm hd hy (by rw [if_pos hL0]; exact hK)
            (with_reducible refine regionB [11] (T := fun _ => tabY [] []) (H := fun _ => [kn_runs GFsRu, kn_same GFsQ]) (B := fun _ => [twoB 11 0 [.ref 0 0 0, .d (.sc (.string nm)), .view 1 3 w 0 pm] [.ref 1 0 0, .d (.sc (.string nm)), .d (.slc 1 d)] [dB n (.d (.sc (.slice none 0 0))) false false 0, dB n (.d (.sc (.slice none 0 0))) false false 0, ⟨45, [.d (.sc (.int .i64 k)), .d (.sc (.int .i64 j)), .d (.sc (.string nm)), .d (.sc (.string to)), .d (.slc 1 d), .d (.slc 1 ps)], false, 0, true⟩, ⟨5, pc, true, w, true⟩] [dB n (.d (.sc (.slice none 0 0))) false false 0, dB n (.d (.sc (.slice none 0 0))) false false 0, ⟨45, [.d (.sc (.int .i64 k)), .d (.sc (.int .i64 j)), .d (.sc (.string nm)), .d (.sc (.string to)), .d (.slc 1 d), .d (.slc 1 ps)], false, 0, true⟩, ⟨5, pc, true, w, true⟩] (.d (.sc (.int .i64 e))) (.d (.sc (.int .i64 e))) [dB n (.d (.sc (.slice none 0 0))) false false 0, dB n (.d (.sc (.slice none 0 0))) false false 0, ⟨45, [.d (.sc (.int .i64 k)), .d (.sc (.int .i64 j)), .d (.sc (.string nm)), .d (.sc (.string to)), .d (.slc 1 d), .d (.slc 1 ps)], false, 0, true⟩, ⟨5, pc, true, w, true⟩] [dB n (.d (.sc (.slice none 0 0))) false false 0, dB n (.d (.sc (.slice none 0 0))) false false 0, ⟨45, [.d (.sc (.int .i64 k)), .d (.sc (.int .i64 j)), .d (.sc (.string nm)), .d (.sc (.string to)), .d (.slc 1 d), .d (.slc 1 ps)], false, 0, true⟩, ⟨5, pc, true, w, true⟩]]) (A := A) (tabY_ok _ _) hH hB2 follows_mixed hA hX (by kernel_rfl) (by kernel_rfl) ?_) <;> cbv
            clear hB2
            repeat first
              | (simp only [f1, f2, f2b, f2c, f2d, f2e, f2f, f3, f4, f7, f8, z1]; cbv)
              | refine And.intro (by
                   subst hA hX hW hFsQ hFsL hFsRu
                   clear hH hB
                   first
                     | exact trivial
                     | exact rfl
                     | (simp [A0]; done)
                     | (intro q; exact q)
                     | (intro q; simpa [A0] using q)
                     | (intro _; trivial)
                     | (show Region.lexB _ _ = true; kernel_rfl)
                     | (show turnsB _ = true; kernel_rfl)
                     | assumption
                     | exact okqM) ?_
              | ((with_reducible refine callB hX hB ?_); cbv; fail_if_success show False)
              | (refine pickL hX (t := true) (by rfl) rfl ?_; cbv)
              | (refine pickL hX (t := false) (by rfl) rfl ?_; cbv)
            refine loopL (T := fun _ => tabY [94, 97] [9, 13, 19, 25, 28, 31, 32, 33, 34, 39, 40]) (H := fun _ => [kn_runs GFsRu, kn_same GFsQ]) (tabY_ok _ _) hH follows_mixed hA hX (fun x : Int × List DV => (0 ≤ x.1 ∧ x.1 ≤ (pm : Int)) ∧ ∃ ns, x.2 = u8L ns ∧ ns.length = pm) (fun x => [(0, .d (.slc 6 xs)), (3, .ref 0 0 0), (5, .ref 1 0 0), (7, .d (.sc (.int .i64 i))), (8, .ref 2 0 0), (9, .view 1 3 w 0 pm), (10, .d (.sc (.int .i64 x.1)))]) (fun x => [dB n (.d (.sc (.slice none 0 0))) false false 0, dB n (.d (.sc (.slice none 0 0))) false false 0, ⟨45, [.d (.sc (.int .i64 k)), .d (.sc (.int .i64 j)), .d (.sc (.string nm)), .d (.sc (.string to)), .d (.slc 1 d), .d (.slc 1 ps)], false, 0, true⟩, ⟨5, x.2, true, w, true⟩]) (fun x => ((pm : Int) - x.1).toNat) (0, pc) ?_ ?_ ?_
            · exact ⟨⟨Int.le_refl 0, Int.natCast_nonneg _⟩, hu8⟩
            · exact told_less (by simp [toldP, getS])
            rintro R2 ⟨j2, cc⟩ hR2 ⟨hj2, ns, hns, hnsl⟩
            replace hj2 : 0 ≤ j2 ∧ j2 ≤ (pm : Int) := hj2
            replace hns : cc = u8L ns := hns
            cbv
            by_cases hlt2 : j2 < (pm : Int)
            · have t1 : A.cmp .lss j2 (A.int pm) = true := by subst hA; exact decide_eq_true hlt2
              cbv at t1
              simp only [t1]
              cbv
              replace hj2 : 0 ≤ j2 ∧ j2 ≤ (pm : Int) := hj2
              replace hlt2 : j2 < (pm : Int) := hlt2
              replace hnsl : ns.length = pm := hnsl
              have hnb : pm ≤ 8000000 := by first | omega | (clear hnsl; replace hkb : pm ≤ 8000000 := hkb; omega)
              have hnat : j2.toNat < ns.length := by omega
              obtain ⟨x0, g1, g2⟩ := u8_at hnat
              have hcl : (u8L ns).length = ns.length := by simp [u8L]
              have hw2 : IntKind.wrap .i64 (j2 + 1) = j2 + 1 := wrap_i64 (by unfold r64; omega)
              repeat' (refine And.intro ?_ ?_)
              all_goals subst hA
              all_goals first
                | rfl
                | exact ⟨hj2.1, hlt2⟩
                | (show (_ : Nat) ≤ _; simp only [A0, hns, Nat.zero_add, Nat.mul_one]; omega)
                | (simp only [A0, hns, Nat.zero_add, Nat.mul_one, g1]; refine ⟨rfl, by omega, ?_⟩; rw [g2]; rfl)
                | (rw [hR2]
                   refine ⟨(j2 + 1, _), ⟨⟨?_, ?_⟩, ?_⟩, ?_, told_eq8 rfl ?_⟩
                   · show 0 ≤ j2 + 1
                     omega
                   · show j2 + 1 ≤ (pm : Int)
                     omega
                   · rw [← hnsl]
                     show ∃ ms, splice cc (0 + j2.toNat * 1) _ = u8L ms ∧ _
                     rw [hns, Nat.zero_add, Nat.mul_one]
                     exact u8_set hnat _
                   · show ((pm : Int) - (j2 + 1)).toNat < ((pm : Int) - j2).toNat
                     omega
                   · simp [toldP, getS, A0, hw2])
                | fail
            · have t1 : A.cmp .lss j2 (A.int pm) = false := by subst hA; exact decide_eq_false hlt2
              cbv at t1
              simp only [t1]
              cbv
              repeat (refine And.intro (by subst hA; exact rfl) ?_)
              refine pauseL hX (s' := [(0, .d (.slc 6 xs)), (3, .ref 0 0 0), (5, .ref 1 0 0), (7, .d (.sc (.int .i64 i))), (8, .ref 2 0 0)]) (told_less (by simp [toldP, getS])) ?_
              with_reducible refine goL (T := fun _ => tabY [] []) (H := fun _ => [kn_runs GFsRu, kn_same GFsQ]) (tabY_ok _ _) hH follows_mixed hA hX ?_
              cbv
              repeat first
                | (simp only [f1, f2, f2b, f2c, f2d, f2e, f2f, f3, f4, f7, f8]; cbv)
                | refine And.intro (by
                     subst hA hX hW hFsQ hFsL hFsRu
                     clear hH hB
                     first
                       | exact trivial
                       | exact rfl
                       | (simp [A0]; done)
                       | (intro q; exact q)
                       | (intro q; simpa [A0] using q)
                       | (intro _; trivial)
                       | (show Region.lexB _ _ = true; kernel_rfl)
                       | (show turnsB _ = true; kernel_rfl)
                       | assumption
                       | exact okqM) ?_
                | ((with_reducible refine callB hX hB ?_); cbv; fail_if_success show False)
                | (refine pickL hX (t := true) (by rfl) rfl ?_; cbv)
                | (refine pickL hX (t := false) (by rfl) rfl ?_; cbv)
              refine callL hX (readN nm 0 rfl hD9 ?_)
              cbv
              refine unrollL (T := fun _ => tabY [] [9, 13, 19, 25, 28, 31, 32, 33, 34, 39, 40]) (H := fun _ => [kn_runs GFsRu, kn_same GFsQ]) (tabY_ok _ _) hH follows_mixed hA hX 1 fun R3 hR3 => ?_
              have l0 : A.cmp .lss 0 (A.len []) = false := by subst hA; rfl
              cbv at l0
              refine hR3 _ _ _ ?_
              cbv
              simp only [l0]
              cbv
              replace i0 : 0 ≤ i := i0
              replace hlt : i < (xs.length : Int) := hlt
              replace hlt40 : i < 40 := hlt40
              have wi : IntKind.wrap .i64 (i + 1) = i + 1 := wrap_i64 (by unfold r64; omega)
              subst hR
              refine ⟨(i + 1, none, L9), ⟨⟨by show 0 ≤ i + 1; omega, by show i + 1 ≤ 40; omega⟩, ?_, hL0⟩, by show 40 - (i + 1).toNat < 40 - i.toNat; omega, ?_⟩
              · show okD (i + 1).toNat _
                rw [show (i + 1).toNat = i.toNat + 1 by omega]
                exact hok9
              · have hpsC : ∀ κ (M : List FileM), pullL κ (cellsF M) = cellsF M := fun κ M => by rw [pullL_eq]; exact pull_rows κ _
                subst hA
                refine told_keep [0, 1] rfl ?_ ?_
                · simp only [keepSt, List.map_cons, List.map_nil, pullBox, List.getD_cons_zero, List.getD_cons_succ, twT, pullL, pullD]
                  skip
                  try rfl
                · simp [toldP, getS, A0, wi, pullD]
                  try (repeat' (first | rfl | apply And.intro))
          · have hB2 : SoundB Try.prog [twoB 11 0 [.ref 0 0 0, .d (.sc (.string nm)), .view 1 3 w 0 pm] [.ref 1 0 0, .d (.sc (.string nm)), .d (.slc 1 d)] [dB n (.d (.sc (.slice none 0 0))) false false 0, dB n (.d (.sc (.slice none 0 0))) false false 0, ⟨45, [.d (.sc (.int .i64 k)), .d (.sc (.int .i64 j)), .d (.sc (.string nm)), .d (.sc (.string to)), .d (.slc 1 d), .d (.slc 1 ps)], false, 0, true⟩, ⟨5, pc, true, w, true⟩] [dB n (.view 3 4 9 0 n9) false false 0, dB n (.d (.sc (.slice none 0 0))) false false 0, ⟨45, [.d (.sc (.int .i64 k)), .d (.sc (.int .i64 j)), .d (.sc (.string nm)), .d (.sc (.string to)), .d (.slc 1 d), .d (.slc 1 ps)], false, 0, true⟩, ⟨5, pc, true, w, true⟩, fB c9 9] (.d (.sc (.int .i64 e))) (.d (.sc (.int .i64 e))) [dB n (.view 3 4 9 0 n9) false false 0, dB n (.d (.sc (.slice none 0 0))) false false 0, ⟨45, [.d (.sc (.int .i64 k)), .d (.sc (.int .i64 j)), .d (.sc (.string nm)), .d (.sc (.string to)), .d (.slc 1 d), .d (.slc 1 ps)], false, 0, true⟩, ⟨5, pc, true, w, true⟩, fB c9 9] [dB n (.view 3 4 9 0 n9) false false 0, dB n (.view 3 5 9 0 n9) false false 0, ⟨45, [.d (.sc (.int .i64 k)), .d (.sc (.int .i64 j)), .d (.sc (.string nm)), .d (.sc (.string to)), .d (.slc 1 d), .d (.slc 1 ps)], false, 0, true⟩, ⟨5, pc, true, w, true⟩, fB c9 9, fB c9 9]] := by
              refine orB_ok (twoB_ok (fun K hK => ?_) (fun K hK => ?_)) noB_ok
              · exact appVA0 nm d 0 3 rfl rfl (by decide) hD9 hnm hd hpc hpm hy (by rw [if_neg hL0, ← hn9, ← hc9]; exact hK)
              · exact appA0 nm d 1 rfl hD9 hnm hd hy (by rw [if_neg hL0, ← hn9, ← hc9]; exact hK)
            (with_reducible refine regionB [11] (T := fun _ => tabY [] []) (H := fun _ => [kn_runs GFsRu, kn_same GFsQ]) (B := fun _ => [twoB 11 0 [.ref 0 0 0, .d (.sc (.string nm)), .view 1 3 w 0 pm] [.ref 1 0 0, .d (.sc (.string nm)), .d (.slc 1 d)] [dB n (.d (.sc (.slice none 0 0))) false false 0, dB n (.d (.sc (.slice none 0 0))) false false 0, ⟨45, [.d (.sc (.int .i64 k)), .d (.sc (.int .i64 j)), .d (.sc (.string nm)), .d (.sc (.string to)), .d (.slc 1 d), .d (.slc 1 ps)], false, 0, true⟩, ⟨5, pc, true, w, true⟩] [dB n (.view 3 4 9 0 n9) false false 0, dB n (.d (.sc (.slice none 0 0))) false false 0, ⟨45, [.d (.sc (.int .i64 k)), .d (.sc (.int .i64 j)), .d (.sc (.string nm)), .d (.sc (.string to)), .d (.slc 1 d), .d (.slc 1 ps)], false, 0, true⟩, ⟨5, pc, true, w, true⟩, fB c9 9] (.d (.sc (.int .i64 e))) (.d (.sc (.int .i64 e))) [dB n (.view 3 4 9 0 n9) false false 0, dB n (.d (.sc (.slice none 0 0))) false false 0, ⟨45, [.d (.sc (.int .i64 k)), .d (.sc (.int .i64 j)), .d (.sc (.string nm)), .d (.sc (.string to)), .d (.slc 1 d), .d (.slc 1 ps)], false, 0, true⟩, ⟨5, pc, true, w, true⟩, fB c9 9] [dB n (.view 3 4 9 0 n9) false false 0, dB n (.view 3 5 9 0 n9) false false 0, ⟨45, [.d (.sc (.int .i64 k)), .d (.sc (.int .i64 j)), .d (.sc (.string nm)), .d (.sc (.string to)), .d (.slc 1 d), .d (.slc 1 ps)], false, 0, true⟩, ⟨5, pc, true, w, true⟩, fB c9 9, fB c9 9]]) (A := A) (tabY_ok _ _) hH hB2 follows_mixed hA hX (by kernel_rfl) (by kernel_rfl) ?_) <;> cbv
            clear hB2
            repeat first
              | (simp only [f1, f2, f2b, f2c, f2d, f2e, f2f, f3, f4, f7, f8, z1]; cbv)
              | refine And.intro (by
                   subst hA hX hW hFsQ hFsL hFsRu
                   clear hH hB
                   first
                     | exact trivial
                     | exact rfl
                     | (simp [A0]; done)
                     | (intro q; exact q)
                     | (intro q; simpa [A0] using q)
                     | (intro _; trivial)
                     | (show Region.lexB _ _ = true; kernel_rfl)
                     | (show turnsB _ = true; kernel_rfl)
                     | assumption
                     | exact okqM) ?_
              | ((with_reducible refine callB hX hB ?_); cbv; fail_if_success show False)
              | (refine pickL hX (t := true) (by rfl) rfl ?_; cbv)
              | (refine pickL hX (t := false) (by rfl) rfl ?_; cbv)
            refine loopL (T := fun _ => tabY [94, 97] [9, 13, 19, 25, 28, 31, 32, 33, 34, 39, 40]) (H := fun _ => [kn_runs GFsRu, kn_same GFsQ]) (tabY_ok _ _) hH follows_mixed hA hX (fun x : Int × List DV => (0 ≤ x.1 ∧ x.1 ≤ (pm : Int)) ∧ ∃ ns, x.2 = u8L ns ∧ ns.length = pm) (fun x => [(0, .d (.slc 6 xs)), (3, .ref 0 0 0), (5, .ref 1 0 0), (7, .d (.sc (.int .i64 i))), (8, .ref 2 0 0), (9, .view 1 3 w 0 pm), (10, .d (.sc (.int .i64 x.1)))]) (fun x => [dB n (.view 3 4 9 0 n9) false false 0, dB n (.view 3 5 9 0 n9) false false 0, ⟨45, [.d (.sc (.int .i64 k)), .d (.sc (.int .i64 j)), .d (.sc (.string nm)), .d (.sc (.string to)), .d (.slc 1 d), .d (.slc 1 ps)], false, 0, true⟩, ⟨5, x.2, true, w, true⟩, fB c9 9, fB c9 9]) (fun x => ((pm : Int) - x.1).toNat) (0, pc) ?_ ?_ ?_
            · exact ⟨⟨Int.le_refl 0, Int.natCast_nonneg _⟩, hu8⟩
            · exact told_less (by simp [toldP, getS])
            rintro R2 ⟨j2, cc⟩ hR2 ⟨hj2, ns, hns, hnsl⟩
            replace hj2 : 0 ≤ j2 ∧ j2 ≤ (pm : Int) := hj2
            replace hns : cc = u8L ns := hns
            cbv
            by_cases hlt2 : j2 < (pm : Int)
            · have t1 : A.cmp .lss j2 (A.int pm) = true := by subst hA; exact decide_eq_true hlt2
              cbv at t1
              simp only [t1]
              cbv
              replace hj2 : 0 ≤ j2 ∧ j2 ≤ (pm : Int) := hj2
              replace hlt2 : j2 < (pm : Int) := hlt2
              replace hnsl : ns.length = pm := hnsl
              have hnb : pm ≤ 8000000 := by first | omega | (clear hnsl; replace hkb : pm ≤ 8000000 := hkb; omega)
              have hnat : j2.toNat < ns.length := by omega
              obtain ⟨x0, g1, g2⟩ := u8_at hnat
              have hcl : (u8L ns).length = ns.length := by simp [u8L]
              have hw2 : IntKind.wrap .i64 (j2 + 1) = j2 + 1 := wrap_i64 (by unfold r64; omega)
              repeat' (refine And.intro ?_ ?_)
              all_goals subst hA
              all_goals first
                | rfl
                | exact ⟨hj2.1, hlt2⟩
                | (show (_ : Nat) ≤ _; simp only [A0, hns, Nat.zero_add, Nat.mul_one]; omega)
                | (simp only [A0, hns, Nat.zero_add, Nat.mul_one, g1]; refine ⟨rfl, by omega, ?_⟩; rw [g2]; rfl)
                | (rw [hR2]
                   refine ⟨(j2 + 1, _), ⟨⟨?_, ?_⟩, ?_⟩, ?_, told_eq8 rfl ?_⟩
                   · show 0 ≤ j2 + 1
                     omega
                   · show j2 + 1 ≤ (pm : Int)
                     omega
                   · rw [← hnsl]
                     show ∃ ms, splice cc (0 + j2.toNat * 1) _ = u8L ms ∧ _
                     rw [hns, Nat.zero_add, Nat.mul_one]
                     exact u8_set hnat _
                   · show ((pm : Int) - (j2 + 1)).toNat < ((pm : Int) - j2).toNat
                     omega
                   · simp [toldP, getS, A0, hw2])
                | fail
            · have t1 : A.cmp .lss j2 (A.int pm) = false := by subst hA; exact decide_eq_false hlt2
              cbv at t1
              simp only [t1]
              cbv
              repeat (refine And.intro (by subst hA; exact rfl) ?_)
              refine pauseL hX (s' := [(0, .d (.slc 6 xs)), (3, .ref 0 0 0), (5, .ref 1 0 0), (7, .d (.sc (.int .i64 i))), (8, .ref 2 0 0)]) (told_less (by simp [toldP, getS])) ?_
              with_reducible refine goL (T := fun _ => tabY [] []) (H := fun _ => [kn_runs GFsRu, kn_same GFsQ]) (tabY_ok _ _) hH follows_mixed hA hX ?_
              cbv
              repeat first
                | (simp only [f1, f2, f2b, f2c, f2d, f2e, f2f, f3, f4, f7, f8]; cbv)
                | refine And.intro (by
                     subst hA hX hW hFsQ hFsL hFsRu
                     clear hH hB
                     first
                       | exact trivial
                       | exact rfl
                       | (simp [A0]; done)
                       | (intro q; exact q)
                       | (intro q; simpa [A0] using q)
                       | (intro _; trivial)
                       | (show Region.lexB _ _ = true; kernel_rfl)
                       | (show turnsB _ = true; kernel_rfl)
                       | assumption
                       | exact okqM) ?_
                | ((with_reducible refine callB hX hB ?_); cbv; fail_if_success show False)
                | (refine pickL hX (t := true) (by rfl) rfl ?_; cbv)
                | (refine pickL hX (t := false) (by rfl) rfl ?_; cbv)
              refine callL hX (readO nm 0 4 L9 rfl rfl (by decide) hc9 hn9 hok900 (fun t => ?_) (fun u3 k3 p3 x3 hx3 hp3 hk3 => ?_))
              · cbv
                refine unrollL (T := fun _ => tabY [] [9, 13, 19, 25, 28, 31, 32, 33, 34, 39, 40]) (H := fun _ => [kn_runs GFsRu, kn_same GFsQ]) (tabY_ok _ _) hH follows_mixed hA hX 1 fun R3 hR3 => ?_
                have l0 : A.cmp .lss 0 0 = false := by subst hA; rfl
                cbv at l0
                refine hR3 _ _ _ ?_
                cbv
                simp only [l0]
                cbv
                replace i0 : 0 ≤ i := i0
                replace hlt : i < (xs.length : Int) := hlt
                replace hlt40 : i < 40 := hlt40
                have wi : IntKind.wrap .i64 (i + 1) = i + 1 := wrap_i64 (by unfold r64; omega)
                subst hR
                refine ⟨(i + 1, some (9, 9, n9, c9), L9), ⟨⟨by show 0 ≤ i + 1; omega, by show i + 1 ≤ 40; omega⟩, ?_, ⟨hc9, hn9⟩⟩, by show 40 - (i + 1).toNat < 40 - i.toNat; omega, ?_⟩
                · show okD (i + 1).toNat _
                  rw [show (i + 1).toNat = i.toNat + 1 by omega]
                  exact hok9
                · have hpsC : ∀ κ (M : List FileM), pullL κ (cellsF M) = cellsF M := fun κ M => by rw [pullL_eq]; exact pull_rows κ _
                  subst hA
                  refine told_keep [0, 1, 4, 5] rfl ?_ ?_
                  · simp only [keepSt, List.map_cons, List.map_nil, pullBox, List.getD_cons_zero, List.getD_cons_succ, twT, pullL, pullD]
                    try simp only [hc9, hpsC]
                    try rfl
                  · simp [toldP, getS, A0, wi, pullD]
                    try (repeat' (first | rfl | apply And.intro))
              · cbv
                have hu8 : ∃ ns, p3 = u8L ns ∧ ns.length = k3 := by
                  obtain ⟨bs, hb1, _⟩ := hx3
                  obtain ⟨ns, h1, h2⟩ := u8_bytes bs
                  exact ⟨ns, by rw [hp3, hb1]; exact h1, by rw [h2, hk3, hb1, bytesP_length]⟩
                clear hns hnsl hj2 hlt2 t1
                have hkb : k3 ≤ 8000000 := by
                  obtain ⟨bs, hb1, hb2⟩ := id hx3
                  rw [hk3, hb1, bytesP_length]
                  omega
                refine loopL (T := fun _ => tabY [113, 116] [9, 13, 19, 25, 28, 31, 32, 33, 34, 39, 40]) (H := fun _ => [kn_runs GFsRu, kn_same GFsQ]) (tabY_ok _ _) hH follows_mixed hA hX (fun x : Int × List DV => (0 ≤ x.1 ∧ x.1 ≤ (k3 : Int)) ∧ ∃ ns, x.2 = u8L ns ∧ ns.length = k3) (fun x => [(0, .d (.slc 6 xs)), (3, .ref 0 0 0), (5, .ref 1 0 0), (7, .d (.sc (.int .i64 i))), (8, .ref 2 0 0), (11, .view 1 6 u3 0 k3), (13, .d (.sc (.int .i64 x.1)))]) (fun x => [dB n (.view 3 4 9 0 n9) false false 0, dB n (.view 3 5 9 0 n9) false false 0, ⟨45, [.d (.sc (.int .i64 k)), .d (.sc (.int .i64 j)), .d (.sc (.string nm)), .d (.sc (.string to)), .d (.slc 1 d), .d (.slc 1 ps)], false, 0, true⟩, ⟨5, cc, true, w, true⟩, fB c9 9, fB c9 9, ⟨5, x.2, true, u3, true⟩]) (fun x => ((k3 : Int) - x.1).toNat) (0, p3) ?_ ?_ ?_
                · exact ⟨⟨Int.le_refl 0, Int.natCast_nonneg _⟩, hu8⟩
                · exact told_less (by simp [toldP, getS])
                rintro R4 ⟨j3, c3⟩ hR4 ⟨hj3, ns, hns, hnsl⟩
                replace hj3 : 0 ≤ j3 ∧ j3 ≤ (k3 : Int) := hj3
                replace hns : c3 = u8L ns := hns
                cbv
                by_cases hlt3 : j3 < (k3 : Int)
                · have t1 : A.cmp .lss j3 (A.int k3) = true := by subst hA; exact decide_eq_true hlt3
                  cbv at t1
                  simp only [t1]
                  cbv
                  replace hj3 : 0 ≤ j3 ∧ j3 ≤ (k3 : Int) := hj3
                  replace hlt3 : j3 < (k3 : Int) := hlt3
                  replace hnsl : ns.length = k3 := hnsl
                  have hnb : k3 ≤ 8000000 := by first | omega | (clear hnsl; replace hkb : k3 ≤ 8000000 := hkb; omega)
                  have hnat : j3.toNat < ns.length := by omega
                  obtain ⟨x0, g1, g2⟩ := u8_at hnat
                  have hcl : (u8L ns).length = ns.length := by simp [u8L]
                  have hw2 : IntKind.wrap .i64 (j3 + 1) = j3 + 1 := wrap_i64 (by unfold r64; omega)
                  repeat' (refine And.intro ?_ ?_)
                  all_goals subst hA
                  all_goals first
                    | rfl
                    | exact ⟨hj3.1, hlt3⟩
                    | (show (_ : Nat) ≤ _; simp only [A0, hns, Nat.zero_add, Nat.mul_one]; omega)
                    | (simp only [A0, hns, Nat.zero_add, Nat.mul_one, g1]; refine ⟨rfl, by omega, ?_⟩; rw [g2]; rfl)
                    | (rw [hR4]
                       refine ⟨(j3 + 1, _), ⟨⟨?_, ?_⟩, ?_⟩, ?_, told_eq8 rfl ?_⟩
                       · show 0 ≤ j3 + 1
                         omega
                       · show j3 + 1 ≤ (k3 : Int)
                         omega
                       · rw [← hnsl]
                         show ∃ ms, splice c3 (0 + j3.toNat * 1) _ = u8L ms ∧ _
                         rw [hns, Nat.zero_add, Nat.mul_one]
                         exact u8_set hnat _
                       · show ((k3 : Int) - (j3 + 1)).toNat < ((k3 : Int) - j3).toNat
                         omega
                       · simp [toldP, getS, A0, hw2])
                    | fail
                · have t1 : A.cmp .lss j3 (A.int k3) = false := by subst hA; exact decide_eq_false hlt3
                  cbv at t1
                  simp only [t1]
                  cbv
                  repeat (refine And.intro (by subst hA; exact rfl) ?_)
                  replace i0 : 0 ≤ i := i0
                  replace hlt : i < (xs.length : Int) := hlt
                  replace hlt40 : i < 40 := hlt40
                  have wi : IntKind.wrap .i64 (i + 1) = i + 1 := wrap_i64 (by unfold r64; omega)
                  subst hR
                  refine ⟨(i + 1, some (9, 9, n9, c9), L9), ⟨⟨by show 0 ≤ i + 1; omega, by show i + 1 ≤ 40; omega⟩, ?_, ⟨hc9, hn9⟩⟩, by show 40 - (i + 1).toNat < 40 - i.toNat; omega, ?_⟩
                  · show okD (i + 1).toNat _
                    rw [show (i + 1).toNat = i.toNat + 1 by omega]
                    exact hok9
                  · have hpsC : ∀ κ (M : List FileM), pullL κ (cellsF M) = cellsF M := fun κ M => by rw [pullL_eq]; exact pull_rows κ _
                    subst hA
                    refine told_keep [0, 1, 4, 5] rfl ?_ ?_
                    · simp only [keepSt, List.map_cons, List.map_nil, pullBox, List.getD_cons_zero, List.getD_cons_succ, twT, pullL, pullD]
                      try simp only [hc9, hpsC]
                      try rfl
                    · simp [toldP, getS, A0, wi, pullD]
                      try (repeat' (first | rfl | apply And.intro))
        have r1 : A.cmp .eql k 1 = false := by subst hA; exact decide_eq_false hk1
        cbv at r1

        by_cases hk2 : k = 2
        · have r2 : A.cmp .eql k 2 = true := by subst hA; exact decide_eq_true hk2
          cbv at r2
          with_reducible refine goL (T := fun _ => tabY [] []) (H := fun _ => [kn_runs GFsRu, kn_same GFsQ]) (tabY_ok _ _) hH follows_mixed hA hX ?_
          cbv
          repeat first
            | (simp only [f1, f2, f2b, f2c, f2d, f2e, f2f, f3, f4, f7, f8, s3, s4, r1, r2]; cbv)
            | refine And.intro (by
                 subst hA hX hW hFsQ hFsL hFsRu
                 clear hH hB
                 first
                   | exact trivial
                   | exact rfl
                   | (simp [A0]; done)
                   | (intro q; exact q)
                   | (intro q; simpa [A0] using q)
                   | (intro _; trivial)
                   | (show Region.lexB _ _ = true; kernel_rfl)
                   | (show turnsB _ = true; kernel_rfl)
                   | assumption
                   | exact okqM
                   | (show _ ∧ _; simp only [A0]; exact ⟨by omega, by omega⟩)) ?_
            | ((with_reducible refine callB hX hB ?_); cbv; fail_if_success show False)
            | (refine pickL hX (t := true) (by rfl) rfl ?_; cbv)
            | (refine pickL hX (t := false) (by rfl) rfl ?_; cbv)
          obtain ⟨pm, hpm0⟩ : ∃ z, z = A.pl 0 (A.lenN d) := ⟨_, rfl⟩
          obtain ⟨w, hw0⟩ : ∃ z, z = A.nxt 0 := ⟨_, rfl⟩
          obtain ⟨pc, hpc0⟩ : ∃ z, z = A.app [] (A.rows d) := ⟨_, rfl⟩
          have hpm : pm = d.length := by subst hA; rw [hpm0]; exact Nat.zero_add _
          have hpc : pc = rowsD d := by subst hA; rw [hpc0]; rfl
          cbv at hpm0 hw0 hpc0
          obtain ⟨e, L9, hy⟩ := sync_some n [] nm
          have hok9 : okD (i.toNat + 1) ⟨n, L9, false, false, 0⟩ := by
            have h1 := hD.sync nm
            rw [hy] at h1
            exact h1.mono (Nat.le_succ _)
          have z1 : A.cmp .neq e e = false := by subst hA; show (!decide (e = e)) = false; rw [decide_eq_true rfl]; rfl
          cbv at z1
          refine pauseL hX (s' := [(0, .d (.slc 6 xs)), (3, .ref 0 0 0), (5, .ref 1 0 0), (7, .d (.sc (.int .i64 i))), (8, .ref 2 0 0)]) (st' := [dB n (.d (.sc (.slice none 0 0))) false false 0, dB n (.d (.sc (.slice none 0 0))) false false 0, ⟨45, [.d (.sc (.int .i64 k)), .d (.sc (.int .i64 j)), .d (.sc (.string nm)), .d (.sc (.string to)), .d (.slc 1 d), .d (.slc 1 ps)], false, 0, true⟩, ⟨5, pc, true, w, true⟩]) (told_eq8 (by rw [hpc0, hw0]) (by simp [toldP, getS])) ?_
          have hL9 : L9 = [] := by
            have h2 := hy
            unfold Dk.sync at h2
            simp only [Dk.know, powE, powO, powL, Bool.false_and, cond_false, if_true, Bool.false_or] at h2
            repeat' split at h2
            all_goals first
              | (simp only [Prod.mk.injEq, Dk.mk.injEq] at h2; exact h2.2.2.1.symm)
              | (exfalso; rename_i hq; simp [knE, findX, cellsF, filesX, rowsD, rowF, findF] at hq; done)
              | (exfalso; rename_i hq hq2; simp [knE, findX, cellsF, filesX, rowsD, rowF, findF] at hq2; done)
          subst hL9
          have hB2 : SoundB Try.prog [twoB 12 0 [.ref 0 0 0, .d (.sc (.string nm))] [.ref 1 0 0, .d (.sc (.string nm))] [dB n (.d (.sc (.slice none 0 0))) false false 0, dB n (.d (.sc (.slice none 0 0))) false false 0, ⟨45, [.d (.sc (.int .i64 k)), .d (.sc (.int .i64 j)), .d (.sc (.string nm)), .d (.sc (.string to)), .d (.slc 1 d), .d (.slc 1 ps)], false, 0, true⟩, ⟨5, pc, true, w, true⟩] [dB n (.d (.sc (.slice none 0 0))) false false 0, dB n (.d (.sc (.slice none 0 0))) false false 0, ⟨45, [.d (.sc (.int .i64 k)), .d (.sc (.int .i64 j)), .d (.sc (.string nm)), .d (.sc (.string to)), .d (.slc 1 d), .d (.slc 1 ps)], false, 0, true⟩, ⟨5, pc, true, w, true⟩] (.d (.sc (.int .i64 e))) (.d (.sc (.int .i64 e))) [dB n (.d (.sc (.slice none 0 0))) false false 0, dB n (.d (.sc (.slice none 0 0))) false false 0, ⟨45, [.d (.sc (.int .i64 k)), .d (.sc (.int .i64 j)), .d (.sc (.string nm)), .d (.sc (.string to)), .d (.slc 1 d), .d (.slc 1 ps)], false, 0, true⟩, ⟨5, pc, true, w, true⟩] [dB n (.d (.sc (.slice none 0 0))) false false 0, dB n (.d (.sc (.slice none 0 0))) false false 0, ⟨45, [.d (.sc (.int .i64 k)), .d (.sc (.int .i64 j)), .d (.sc (.string nm)), .d (.sc (.string to)), .d (.slc 1 d), .d (.slc 1 ps)], false, 0, true⟩, ⟨5, pc, true, w, true⟩]] := by
            refine orB_ok (twoB_ok (fun K hK => ?_) (fun K hK => ?_)) noB_ok
            · exact syncA0 nm 0 rfl hD9 hy (by rw [if_pos rfl]; exact hK)
            · exact syncA0 nm 1 rfl hD9 hy (by rw [if_pos rfl]; exact hK)
          (with_reducible refine regionB [12] (T := fun _ => tabY [] []) (H := fun _ => [kn_runs GFsRu, kn_same GFsQ]) (B := fun _ => [twoB 12 0 [.ref 0 0 0, .d (.sc (.string nm))] [.ref 1 0 0, .d (.sc (.string nm))] [dB n (.d (.sc (.slice none 0 0))) false false 0, dB n (.d (.sc (.slice none 0 0))) false false 0, ⟨45, [.d (.sc (.int .i64 k)), .d (.sc (.int .i64 j)), .d (.sc (.string nm)), .d (.sc (.string to)), .d (.slc 1 d), .d (.slc 1 ps)], false, 0, true⟩, ⟨5, pc, true, w, true⟩] [dB n (.d (.sc (.slice none 0 0))) false false 0, dB n (.d (.sc (.slice none 0 0))) false false 0, ⟨45, [.d (.sc (.int .i64 k)), .d (.sc (.int .i64 j)), .d (.sc (.string nm)), .d (.sc (.string to)), .d (.slc 1 d), .d (.slc 1 ps)], false, 0, true⟩, ⟨5, pc, true, w, true⟩] (.d (.sc (.int .i64 e))) (.d (.sc (.int .i64 e))) [dB n (.d (.sc (.slice none 0 0))) false false 0, dB n (.d (.sc (.slice none 0 0))) false false 0, ⟨45, [.d (.sc (.int .i64 k)), .d (.sc (.int .i64 j)), .d (.sc (.string nm)), .d (.sc (.string to)), .d (.slc 1 d), .d (.slc 1 ps)], false, 0, true⟩, ⟨5, pc, true, w, true⟩] [dB n (.d (.sc (.slice none 0 0))) false false 0, dB n (.d (.sc (.slice none 0 0))) false false 0, ⟨45, [.d (.sc (.int .i64 k)), .d (.sc (.int .i64 j)), .d (.sc (.string nm)), .d (.sc (.string to)), .d (.slc 1 d), .d (.slc 1 ps)], false, 0, true⟩, ⟨5, pc, true, w, true⟩]]) (A := A) (tabY_ok _ _) hH hB2 follows_mixed hA hX (by kernel_rfl) (by kernel_rfl) ?_) <;> cbv
          clear hB2
          repeat first
            | (simp only [f1, f2, f2b, f2c, f2d, f2e, f2f, f3, f4, f7, f8, z1]; cbv)
            | refine And.intro (by
                 subst hA hX hW hFsQ hFsL hFsRu
                 clear hH hB
                 first
                   | exact trivial
                   | exact rfl
                   | (simp [A0]; done)
                   | (intro q; exact q)
                   | (intro q; simpa [A0] using q)
                   | (intro _; trivial)
                   | (show Region.lexB _ _ = true; kernel_rfl)
                   | (show turnsB _ = true; kernel_rfl)
                   | assumption
                   | exact okqM) ?_
            | ((with_reducible refine callB hX hB ?_); cbv; fail_if_success show False)
            | (refine pickL hX (t := true) (by rfl) rfl ?_; cbv)
            | (refine pickL hX (t := false) (by rfl) rfl ?_; cbv)
          replace i0 : 0 ≤ i := i0
          replace hlt : i < (xs.length : Int) := hlt
          replace hlt40 : i < 40 := hlt40
          have wi : IntKind.wrap .i64 (i + 1) = i + 1 := wrap_i64 (by unfold r64; omega)
          subst hR
          refine ⟨(i + 1, none, []), ⟨⟨by show 0 ≤ i + 1; omega, by show i + 1 ≤ 40; omega⟩, ?_, rfl⟩, by show 40 - (i + 1).toNat < 40 - i.toNat; omega, ?_⟩
          · show okD (i + 1).toNat _
            rw [show (i + 1).toNat = i.toNat + 1 by omega]
            exact hD.mono (Nat.le_succ _)
          · have hpsC : ∀ κ (M : List FileM), pullL κ (cellsF M) = cellsF M := fun κ M => by rw [pullL_eq]; exact pull_rows κ _
            subst hA
            refine told_keep [0, 1] rfl ?_ ?_
            · simp only [keepSt, List.map_cons, List.map_nil, pullBox, List.getD_cons_zero, List.getD_cons_succ, twT, pullL, pullD]
              skip
              try rfl
            · simp [toldP, getS, A0, wi, pullD]
              try (repeat' (first | rfl | apply And.intro))
        have r2 : A.cmp .eql k 2 = false := by subst hA; exact decide_eq_false hk2
        cbv at r2

        by_cases hk4 : k = 4
        · have r4 : A.cmp .eql k 4 = true := by subst hA; exact decide_eq_true hk4
          cbv at r4
          with_reducible refine goL (T := fun _ => tabY [] []) (H := fun _ => [kn_runs GFsRu, kn_same GFsQ]) (tabY_ok _ _) hH follows_mixed hA hX ?_
          cbv
          repeat first
            | (simp only [f1, f2, f2b, f2c, f2d, f2e, f2f, f3, f4, f7, f8, s3, s4, r1, r2, r4]; cbv)
            | refine And.intro (by
                 subst hA hX hW hFsQ hFsL hFsRu
                 clear hH hB
                 first
                   | exact trivial
                   | exact rfl
                   | (simp [A0]; done)
                   | (intro q; exact q)
                   | (intro q; simpa [A0] using q)
                   | (intro _; trivial)
                   | (show Region.lexB _ _ = true; kernel_rfl)
                   | (show turnsB _ = true; kernel_rfl)
                   | assumption
                   | exact okqM
                   | (show _ ∧ _; simp only [A0]; exact ⟨by omega, by omega⟩)) ?_
            | ((with_reducible refine callB hX hB ?_); cbv; fail_if_success show False)
            | (refine pickL hX (t := true) (by rfl) rfl ?_; cbv)
            | (refine pickL hX (t := false) (by rfl) rfl ?_; cbv)
          obtain ⟨pm, hpm0⟩ : ∃ z, z = A.pl 0 (A.lenN d) := ⟨_, rfl⟩
          obtain ⟨w, hw0⟩ : ∃ z, z = A.nxt 0 := ⟨_, rfl⟩
          obtain ⟨pc, hpc0⟩ : ∃ z, z = A.app [] (A.rows d) := ⟨_, rfl⟩
          have hpm : pm = d.length := by subst hA; rw [hpm0]; exact Nat.zero_add _
          have hpc : pc = rowsD d := by subst hA; rw [hpc0]; rfl
          cbv at hpm0 hw0 hpc0
          obtain ⟨e, L9, hy⟩ := ren_some n [] nm to
          have hok9 : okD (i.toNat + 1) ⟨n, L9, false, false, 0⟩ := by
            have h1 := hD.ren nm to
            rw [hy] at h1
            exact h1.mono (Nat.le_succ _)
          have z1 : A.cmp .neq e e = false := by subst hA; show (!decide (e = e)) = false; rw [decide_eq_true rfl]; rfl
          cbv at z1
          refine pauseL hX (s' := [(0, .d (.slc 6 xs)), (3, .ref 0 0 0), (5, .ref 1 0 0), (7, .d (.sc (.int .i64 i))), (8, .ref 2 0 0)]) (st' := [dB n (.d (.sc (.slice none 0 0))) false false 0, dB n (.d (.sc (.slice none 0 0))) false false 0, ⟨45, [.d (.sc (.int .i64 k)), .d (.sc (.int .i64 j)), .d (.sc (.string nm)), .d (.sc (.string to)), .d (.slc 1 d), .d (.slc 1 ps)], false, 0, true⟩, ⟨5, pc, true, w, true⟩]) (told_eq8 (by rw [hpc0, hw0]) (by simp [toldP, getS])) ?_
          have hL9 : L9 = [] := by
            have h2 := hy
            unfold Dk.ren at h2
            simp only [Dk.know, powE, powO, powL, Bool.false_and, cond_false, if_true, Bool.false_or] at h2
            repeat' split at h2
            all_goals first
              | (simp only [Prod.mk.injEq, Dk.mk.injEq] at h2; exact h2.2.2.1.symm)
              | (exfalso; rename_i hq; simp [knE, findX, cellsF, filesX, rowsD, rowF, findF] at hq; done)
              | (exfalso; rename_i hq hq2; simp [knE, findX, cellsF, filesX, rowsD, rowF, findF] at hq2; done)
          subst hL9
          have hB2 : SoundB Try.prog [twoB 23 0 [.ref 0 0 0, .d (.sc (.string nm)), .d (.sc (.string to))] [.ref 1 0 0, .d (.sc (.string nm)), .d (.sc (.string to))] [dB n (.d (.sc (.slice none 0 0))) false false 0, dB n (.d (.sc (.slice none 0 0))) false false 0, ⟨45, [.d (.sc (.int .i64 k)), .d (.sc (.int .i64 j)), .d (.sc (.string nm)), .d (.sc (.string to)), .d (.slc 1 d), .d (.slc 1 ps)], false, 0, true⟩, ⟨5, pc, true, w, true⟩] [dB n (.d (.sc (.slice none 0 0))) false false 0, dB n (.d (.sc (.slice none 0 0))) false false 0, ⟨45, [.d (.sc (.int .i64 k)), .d (.sc (.int .i64 j)), .d (.sc (.string nm)), .d (.sc (.string to)), .d (.slc 1 d), .d (.slc 1 ps)], false, 0, true⟩, ⟨5, pc, true, w, true⟩] (.d (.sc (.int .i64 e))) (.d (.sc (.int .i64 e))) [dB n (.d (.sc (.slice none 0 0))) false false 0, dB n (.d (.sc (.slice none 0 0))) false false 0, ⟨45, [.d (.sc (.int .i64 k)), .d (.sc (.int .i64 j)), .d (.sc (.string nm)), .d (.sc (.string to)), .d (.slc 1 d), .d (.slc 1 ps)], false, 0, true⟩, ⟨5, pc, true, w, true⟩] [dB n (.d (.sc (.slice none 0 0))) false false 0, dB n (.d (.sc (.slice none 0 0))) false false 0, ⟨45, [.d (.sc (.int .i64 k)), .d (.sc (.int .i64 j)), .d (.sc (.string nm)), .d (.sc (.string to)), .d (.slc 1 d), .d (.slc 1 ps)], false, 0, true⟩, ⟨5, pc, true, w, true⟩]] := by
            refine orB_ok (twoB_ok (fun K hK => ?_) (fun K hK => ?_)) noB_ok
            · exact renA0 nm to 0 rfl hD9 hto hy (by rw [if_pos rfl]; exact hK)
            · exact renA0 nm to 1 rfl hD9 hto hy (by rw [if_pos rfl]; exact hK)
          (with_reducible refine regionB [23] (T := fun _ => tabY [] []) (H := fun _ => [kn_runs GFsRu, kn_same GFsQ]) (B := fun _ => [twoB 23 0 [.ref 0 0 0, .d (.sc (.string nm)), .d (.sc (.string to))] [.ref 1 0 0, .d (.sc (.string nm)), .d (.sc (.string to))] [dB n (.d (.sc (.slice none 0 0))) false false 0, dB n (.d (.sc (.slice none 0 0))) false false 0, ⟨45, [.d (.sc (.int .i64 k)), .d (.sc (.int .i64 j)), .d (.sc (.string nm)), .d (.sc (.string to)), .d (.slc 1 d), .d (.slc 1 ps)], false, 0, true⟩, ⟨5, pc, true, w, true⟩] [dB n (.d (.sc (.slice none 0 0))) false false 0, dB n (.d (.sc (.slice none 0 0))) false false 0, ⟨45, [.d (.sc (.int .i64 k)), .d (.sc (.int .i64 j)), .d (.sc (.string nm)), .d (.sc (.string to)), .d (.slc 1 d), .d (.slc 1 ps)], false, 0, true⟩, ⟨5, pc, true, w, true⟩] (.d (.sc (.int .i64 e))) (.d (.sc (.int .i64 e))) [dB n (.d (.sc (.slice none 0 0))) false false 0, dB n (.d (.sc (.slice none 0 0))) false false 0, ⟨45, [.d (.sc (.int .i64 k)), .d (.sc (.int .i64 j)), .d (.sc (.string nm)), .d (.sc (.string to)), .d (.slc 1 d), .d (.slc 1 ps)], false, 0, true⟩, ⟨5, pc, true, w, true⟩] [dB n (.d (.sc (.slice none 0 0))) false false 0, dB n (.d (.sc (.slice none 0 0))) false false 0, ⟨45, [.d (.sc (.int .i64 k)), .d (.sc (.int .i64 j)), .d (.sc (.string nm)), .d (.sc (.string to)), .d (.slc 1 d), .d (.slc 1 ps)], false, 0, true⟩, ⟨5, pc, true, w, true⟩]]) (A := A) (tabY_ok _ _) hH hB2 follows_mixed hA hX (by kernel_rfl) (by kernel_rfl) ?_) <;> cbv
          clear hB2
          repeat first
            | (simp only [f1, f2, f2b, f2c, f2d, f2e, f2f, f3, f4, f7, f8, z1]; cbv)
            | refine And.intro (by
                 subst hA hX hW hFsQ hFsL hFsRu
                 clear hH hB
                 first
                   | exact trivial
                   | exact rfl
                   | (simp [A0]; done)
                   | (intro q; exact q)
                   | (intro q; simpa [A0] using q)
                   | (intro _; trivial)
                   | (show Region.lexB _ _ = true; kernel_rfl)
                   | (show turnsB _ = true; kernel_rfl)
                   | assumption
                   | exact okqM) ?_
            | ((with_reducible refine callB hX hB ?_); cbv; fail_if_success show False)
            | (refine pickL hX (t := true) (by rfl) rfl ?_; cbv)
            | (refine pickL hX (t := false) (by rfl) rfl ?_; cbv)
          replace i0 : 0 ≤ i := i0
          replace hlt : i < (xs.length : Int) := hlt
          replace hlt40 : i < 40 := hlt40
          have wi : IntKind.wrap .i64 (i + 1) = i + 1 := wrap_i64 (by unfold r64; omega)
          subst hR
          refine ⟨(i + 1, none, []), ⟨⟨by show 0 ≤ i + 1; omega, by show i + 1 ≤ 40; omega⟩, ?_, rfl⟩, by show 40 - (i + 1).toNat < 40 - i.toNat; omega, ?_⟩
          · show okD (i + 1).toNat _
            rw [show (i + 1).toNat = i.toNat + 1 by omega]
            exact hD.mono (Nat.le_succ _)
          · have hpsC : ∀ κ (M : List FileM), pullL κ (cellsF M) = cellsF M := fun κ M => by rw [pullL_eq]; exact pull_rows κ _
            subst hA
            refine told_keep [0, 1] rfl ?_ ?_
            · simp only [keepSt, List.map_cons, List.map_nil, pullBox, List.getD_cons_zero, List.getD_cons_succ, twT, pullL, pullD]
              skip
              try rfl
            · simp [toldP, getS, A0, wi, pullD]
              try (repeat' (first | rfl | apply And.intro))
        have r4 : A.cmp .eql k 4 = false := by subst hA; exact decide_eq_false hk4
        cbv at r4

        by_cases hk7 : k = 7
        · have r7 : A.cmp .eql k 7 = true := by subst hA; exact decide_eq_true hk7
          cbv at r7
          with_reducible refine goL (T := fun _ => tabY [] []) (H := fun _ => [kn_runs GFsRu, kn_same GFsQ]) (tabY_ok _ _) hH follows_mixed hA hX ?_
          cbv
          repeat first
            | (simp only [f1, f2, f2b, f2c, f2d, f2e, f2f, f3, f4, f7, f8, s3, s4, r1, r2, r4, r7]; cbv)
            | refine And.intro (by
                 subst hA hX hW hFsQ hFsL hFsRu
                 clear hH hB
                 first
                   | exact trivial
                   | exact rfl
                   | (simp [A0]; done)
                   | (intro q; exact q)
                   | (intro q; simpa [A0] using q)
                   | (intro _; trivial)
                   | (show Region.lexB _ _ = true; kernel_rfl)
                   | (show turnsB _ = true; kernel_rfl)
                   | assumption
                   | exact okqM
                   | (show _ ∧ _; simp only [A0]; exact ⟨by omega, by omega⟩)) ?_
            | ((with_reducible refine callB hX hB ?_); cbv; fail_if_success show False)
            | (refine pickL hX (t := true) (by rfl) rfl ?_; cbv)
            | (refine pickL hX (t := false) (by rfl) rfl ?_; cbv)
          obtain ⟨pm, hpm0⟩ : ∃ z, z = A.pl 0 (A.lenN d) := ⟨_, rfl⟩
          obtain ⟨w, hw0⟩ : ∃ z, z = A.nxt 0 := ⟨_, rfl⟩
          obtain ⟨pc, hpc0⟩ : ∃ z, z = A.app [] (A.rows d) := ⟨_, rfl⟩
          have hpm : pm = d.length := by subst hA; rw [hpm0]; exact Nat.zero_add _
          have hpc : pc = rowsD d := by subst hA; rw [hpc0]; rfl
          cbv at hpm0 hw0 hpc0
          obtain ⟨js, hjs, hj1, hj2⟩ := hps0
          replace hjs : ps = intsX js := hjs
          obtain ⟨L9, hL9⟩ : ∃ z, z = crF js [] := ⟨_, rfl⟩
          have hy : (Dk.mk n [] false false 0).crash js = ⟨n, L9, false, false, 0⟩ := by rw [hL9]; rfl
          have hok9 : okD (i.toNat + 1) ⟨n, L9, false, false, 0⟩ := by
            have h1 := hD.crash js
            rw [hy] at h1
            exact h1.mono (Nat.le_succ _)
          refine pauseL hX (s' := [(0, .d (.slc 6 xs)), (3, .ref 0 0 0), (5, .ref 1 0 0), (7, .d (.sc (.int .i64 i))), (8, .ref 2 0 0)]) (st' := [dB n (.d (.sc (.slice none 0 0))) false false 0, dB n (.d (.sc (.slice none 0 0))) false false 0, ⟨45, [.d (.sc (.int .i64 k)), .d (.sc (.int .i64 j)), .d (.sc (.string nm)), .d (.sc (.string to)), .d (.slc 1 d), .d (.slc 1 ps)], false, 0, true⟩, ⟨5, pc, true, w, true⟩]) (told_eq8 (by rw [hpc0, hw0]) (by simp [toldP, getS])) ?_
          with_reducible refine goL (T := fun _ => tabY [] []) (H := fun _ => [kn_runs GFsRu, kn_same GFsQ]) (tabY_ok _ _) hH follows_mixed hA hX ?_
          cbv
          repeat first
            | (simp only [f1, f2, f2b, f2c, f2d, f2e, f2f, f3, f4, f7, f8]; cbv)
            | refine And.intro (by
                 subst hA hX hW hFsQ hFsL hFsRu
                 clear hH hB
                 first
                   | exact trivial
                   | exact rfl
                   | (simp [A0]; done)
                   | (intro q; exact q)
                   | (intro q; simpa [A0] using q)
                   | (intro _; trivial)
                   | (show Region.lexB _ _ = true; kernel_rfl)
                   | (show turnsB _ = true; kernel_rfl)
                   | assumption
                   | exact okqM) ?_
            | ((with_reducible refine callB hX hB ?_); cbv; fail_if_success show False)
            | (refine pickL hX (t := true) (by rfl) rfl ?_; cbv)
            | (refine pickL hX (t := false) (by rfl) rfl ?_; cbv)
          rw [hjs]
          have hL0 : L9 = [] := by rw [hL9]; rfl
          refine callL hX (crashS (e := 0) js 0 rfl hD9 hj1 hj2 hy (fun _ => ?_) (fun _ _ _ h8 _ _ => absurd hL0 h8))
          rw [← hjs]
          cbv
          refine pauseL hX (s' := [(0, .d (.slc 6 xs)), (3, .ref 0 0 0), (5, .ref 1 0 0), (7, .d (.sc (.int .i64 i))), (8, .ref 2 0 0)]) (st' := [dB n (.d (.sc (.slice none 0 0))) false false 0, dB n (.d (.sc (.slice none 0 0))) false false 0, ⟨45, [.d (.sc (.int .i64 k)), .d (.sc (.int .i64 j)), .d (.sc (.string nm)), .d (.sc (.string to)), .d (.slc 1 d), .d (.slc 1 ps)], false, 0, true⟩, ⟨5, pc, true, w, true⟩]) (told_less (by simp [toldP, getS])) ?_
          with_reducible refine goL (T := fun _ => tabY [] []) (H := fun _ => [kn_runs GFsRu, kn_same GFsQ]) (tabY_ok _ _) hH follows_mixed hA hX ?_
          cbv
          repeat first
            | (simp only [f1, f2, f2b, f2c, f2d, f2e, f2f, f3, f4, f7, f8]; cbv)
            | refine And.intro (by
                 subst hA hX hW hFsQ hFsL hFsRu
                 clear hH hB
                 first
                   | exact trivial
                   | exact rfl
                   | (simp [A0]; done)
                   | (intro q; exact q)
                   | (intro q; simpa [A0] using q)
                   | (intro _; trivial)
                   | (show Region.lexB _ _ = true; kernel_rfl)
                   | (show turnsB _ = true; kernel_rfl)
                   | assumption
                   | exact okqM) ?_
            | ((with_reducible refine callB hX hB ?_); cbv; fail_if_success show False)
            | (refine pickL hX (t := true) (by rfl) rfl ?_; cbv)
            | (refine pickL hX (t := false) (by rfl) rfl ?_; cbv)
          rw [hjs]
          refine callL hX (crashS (e := 0) js 1 rfl hD9 hj1 hj2 hy (fun _ => ?_) (fun _ _ _ h8 _ _ => absurd hL0 h8))
          rw [← hjs]
          cbv
          repeat first
            | (simp only [f1, f2, f2b, f2c, f2d, f2e, f2f, f3, f4, f7, f8]; cbv)
            | refine And.intro (by
                 subst hA hX hW hFsQ hFsL hFsRu
                 clear hH hB
                 first
                   | exact trivial
                   | exact rfl
                   | (simp [A0]; done)
                   | (intro q; exact q)
                   | (intro q; simpa [A0] using q)
                   | (intro _; trivial)
                   | (show Region.lexB _ _ = true; kernel_rfl)
                   | (show turnsB _ = true; kernel_rfl)
                   | assumption
                   | exact okqM) ?_
            | ((with_reducible refine callB hX hB ?_); cbv; fail_if_success show False)
            | (refine pickL hX (t := true) (by rfl) rfl ?_; cbv)
            | (refine pickL hX (t := false) (by rfl) rfl ?_; cbv)
          replace i0 : 0 ≤ i := i0
          replace hlt : i < (xs.length : Int) := hlt
          replace hlt40 : i < 40 := hlt40
          have wi : IntKind.wrap .i64 (i + 1) = i + 1 := wrap_i64 (by unfold r64; omega)
          subst hR
          refine ⟨(i + 1, none, []), ⟨⟨by show 0 ≤ i + 1; omega, by show i + 1 ≤ 40; omega⟩, ?_, rfl⟩, by show 40 - (i + 1).toNat < 40 - i.toNat; omega, ?_⟩
          · show okD (i + 1).toNat _
            rw [show (i + 1).toNat = i.toNat + 1 by omega]
            exact hD.mono (Nat.le_succ _)
          · have hpsC : ∀ κ (M : List FileM), pullL κ (cellsF M) = cellsF M := fun κ M => by rw [pullL_eq]; exact pull_rows κ _
            subst hA
            refine told_keep [0, 1] rfl ?_ ?_
            · simp only [keepSt, List.map_cons, List.map_nil, pullBox, List.getD_cons_zero, List.getD_cons_succ, twT, pullL, pullD]
              skip
              try rfl
            · simp [toldP, getS, A0, wi, pullD]
              try (repeat' (first | rfl | apply And.intro))
        have r7 : A.cmp .eql k 7 = false := by subst hA; exact decide_eq_false hk7
        cbv at r7

        with_reducible refine goL (T := fun _ => tabY [] []) (H := fun _ => [kn_runs GFsRu, kn_same GFsQ]) (tabY_ok _ _) hH follows_mixed hA hX ?_
        cbv
        repeat first
          | (simp only [f1, f2, f2b, f2c, f2d, f2e, f2f, f3, f4, f7, f8, s3, s4, r1, r2, r4, r7]; cbv)
          | refine And.intro (by
               subst hA hX hW hFsQ hFsL hFsRu
               clear hH hB
               first
                 | exact trivial
                 | exact rfl
                 | (simp [A0]; done)
                 | (intro q; exact q)
                 | (intro q; simpa [A0] using q)
                 | (intro _; trivial)
                 | (show Region.lexB _ _ = true; kernel_rfl)
                 | (show turnsB _ = true; kernel_rfl)
                 | assumption
                 | exact okqM
                 | (show _ ∧ _; simp only [A0]; exact ⟨by omega, by omega⟩)) ?_
          | ((with_reducible refine callB hX hB ?_); cbv; fail_if_success show False)
          | (refine pickL hX (t := true) (by rfl) rfl ?_; cbv)
          | (refine pickL hX (t := false) (by rfl) rfl ?_; cbv)
        replace i0 : 0 ≤ i := i0
        replace hlt : i < (xs.length : Int) := hlt
        replace hlt40 : i < 40 := hlt40
        have wi : IntKind.wrap .i64 (i + 1) = i + 1 := wrap_i64 (by unfold r64; omega)
        subst hR
        refine ⟨(i + 1, none, []), ⟨⟨by show 0 ≤ i + 1; omega, by show i + 1 ≤ 40; omega⟩, ?_, rfl⟩, by show 40 - (i + 1).toNat < 40 - i.toNat; omega, ?_⟩
        · show okD (i + 1).toNat _
          rw [show (i + 1).toNat = i.toNat + 1 by omega]
          exact hD.mono (Nat.le_succ _)
        · have hpsC : ∀ κ (M : List FileM), pullL κ (cellsF M) = cellsF M := fun κ M => by rw [pullL_eq]; exact pull_rows κ _
          subst hA
          refine told_keep [0, 1] rfl ?_ ?_
          · simp only [keepSt, List.map_cons, List.map_nil, pullBox, List.getD_cons_zero, List.getD_cons_succ, twT, pullL, pullD]
            skip
            try rfl
          · simp [toldP, getS, A0, wi, pullD]
            try (repeat' (first | rfl | apply And.intro))
      · have hbad : (A.cmp .gtr (A.len d) 300 || A.cmp .gtr (A.len ps) 30) = true := by
          subst hA
          show (decide ((300 : Int) < (d.length : Int)) || decide ((30 : Int) < (ps.length : Int))) = true
          simp only [Bool.or_eq_true, decide_eq_true_eq]
          omega
        obtain ⟨t1, s3⟩ : ∃ t, A.cmp .gtr (A.len d) 300 = t := ⟨_, rfl⟩
        obtain ⟨t2, s4⟩ : ∃ t, A.cmp .gtr (A.len ps) 30 = t := ⟨_, rfl⟩
        rw [s3, s4] at hbad
        cbv at s3 s4
        cases t1 <;> cases t2
        · exact absurd hbad (by decide)
        all_goals
          with_reducible refine goL (T := fun _ => tabY [] []) (H := fun _ => [kn_runs GFsRu, kn_same GFsQ]) (tabY_ok _ _) hH follows_mixed hA hX ?_
          cbv
          repeat first
            | (simp only [f1, f2, f2b, f2c, f2d, f2e, f2f, f3, f4, f7, f8, s3, s4]; cbv)
            | refine And.intro (by
                 subst hA hX hW hFsQ hFsL hFsRu
                 clear hH hB
                 first
                   | exact trivial
                   | exact rfl
                   | (simp [A0]; done)
                   | (intro q; exact q)
                   | (intro q; simpa [A0] using q)
                   | (intro _; trivial)
                   | (show Region.lexB _ _ = true; kernel_rfl)
                   | (show turnsB _ = true; kernel_rfl)
                   | assumption
                   | exact okqM) ?_
            | ((with_reducible refine callB hX hB ?_); cbv; fail_if_success show False)
            | (refine pickL hX (t := true) (by rfl) rfl ?_; cbv)
            | (refine pickL hX (t := false) (by rfl) rfl ?_; cbv)
          replace i0 : 0 ≤ i := i0
          replace hlt : i < (xs.length : Int) := hlt
          replace hlt40 : i < 40 := hlt40
          have wi : IntKind.wrap .i64 (i + 1) = i + 1 := wrap_i64 (by unfold r64; omega)
          subst hR
          refine ⟨(i + 1, none, []), ⟨⟨by show 0 ≤ i + 1; omega, by show i + 1 ≤ 40; omega⟩, ?_, rfl⟩, by show 40 - (i + 1).toNat < 40 - i.toNat; omega, ?_⟩
          · show okD (i + 1).toNat _
            rw [show (i + 1).toNat = i.toNat + 1 by omega]
            exact hD.mono (Nat.le_succ _)
          · have hpsC : ∀ κ (M : List FileM), pullL κ (cellsF M) = cellsF M := fun κ M => by rw [pullL_eq]; exact pull_rows κ _
            subst hA
            refine told_keep [0, 1] rfl ?_ ?_
            · simp only [keepSt, List.map_cons, List.map_nil, pullBox, List.getD_cons_zero, List.getD_cons_succ, twT, pullL, pullD]
              skip
              try rfl
            · simp [toldP, getS, A0, wi, pullD]
              try (repeat' (first | rfl | apply And.intro))
    · have t0 : A.cond (A.cmp .lss i (A.len xs)) (A.cmp .lss i 40) false = false := by
        subst hA
        show (bif decide (i < (xs.length : Int)) then decide (i < 40) else false) = false
        by_cases h1 : i < (xs.length : Int)
        · rw [decide_eq_true h1, decide_eq_false (fun h2 => hin ⟨h1, h2⟩)]
          rfl
        · rw [decide_eq_false h1]
          rfl
      cbv at t0
      simp only [t0]
      cbv
      repeat first
        | (simp only [f1, f2, f2b, f2c, f2d, f2e, f2f, f3, f4, f7, f8]; cbv)
        | refine And.intro (by
             subst hA hX hW hFsQ hFsL hFsRu
             clear hH hB
             first
               | exact trivial
               | exact rfl
               | (simp [A0]; done)
               | (intro q; exact q)
               | (intro q; simpa [A0] using q)
               | (intro _; trivial)
               | (show Region.lexB _ _ = true; kernel_rfl)
               | (show turnsB _ = true; kernel_rfl)
               | assumption
               | exact okqM) ?_
        | ((with_reducible refine callB hX hB ?_); cbv; fail_if_success show False)
        | (refine pickL hX (t := true) (by rfl) rfl ?_; cbv)
        | (refine pickL hX (t := false) (by rfl) rfl ?_; cbv)
      obtain ⟨ns, hns⟩ : ∃ z, z = namesF ([] : List FileM) := ⟨_, rfl⟩
      have hnsl : ns.length = 0 := by rw [hns]; simp [namesF, strR1]
      refine pauseL hX (s' := [(3, .ref 0 0 0), (5, .ref 1 0 0)]) (told_less (by simp [toldP, getS])) ?_
      with_reducible refine goL (T := fun _ => tabY [] []) (H := fun _ => [kn_runs GFsRu, kn_same GFsQ]) (tabY_ok _ _) hH follows_mixed hA hX ?_
      cbv
      repeat first
        | (simp only [f1, f2, f2b, f2c, f2d, f2e, f2f, f3, f4, f7, f8]; cbv)
        | refine And.intro (by
             subst hA hX hW hFsQ hFsL hFsRu
             clear hH hB
             first
               | exact trivial
               | exact rfl
               | (simp [A0]; done)
               | (intro q; exact q)
               | (intro q; simpa [A0] using q)
               | (intro _; trivial)
               | (show Region.lexB _ _ = true; kernel_rfl)
               | (show turnsB _ = true; kernel_rfl)
               | assumption
               | exact okqM) ?_
        | ((with_reducible refine callB hX hB ?_); cbv; fail_if_success show False)
        | (refine pickL hX (t := true) (by rfl) rfl ?_; cbv)
        | (refine pickL hX (t := false) (by rfl) rfl ?_; cbv)
      refine callL hX (namesA0 1 rfl ?_)
      rw [← hns]
      cbv
      refine pauseL hX (s' := [(3, .ref 0 0 0), (5, .ref 1 0 0), (14, .d (.slc 1 ns))]) (told_less (by simp [toldP, getS])) ?_
      with_reducible refine goL (T := fun _ => tabY [] []) (H := fun _ => [kn_runs GFsRu, kn_same GFsQ]) (tabY_ok _ _) hH follows_mixed hA hX ?_
      cbv
      repeat first
        | (simp only [f1, f2, f2b, f2c, f2d, f2e, f2f, f3, f4, f7, f8]; cbv)
        | refine And.intro (by
             subst hA hX hW hFsQ hFsL hFsRu
             clear hH hB
             first
               | exact trivial
               | exact rfl
               | (simp [A0]; done)
               | (intro q; exact q)
               | (intro q; simpa [A0] using q)
               | (intro _; trivial)
               | (show Region.lexB _ _ = true; kernel_rfl)
               | (show turnsB _ = true; kernel_rfl)
               | assumption
               | exact okqM) ?_
        | ((with_reducible refine callB hX hB ?_); cbv; fail_if_success show False)
        | (refine pickL hX (t := true) (by rfl) rfl ?_; cbv)
        | (refine pickL hX (t := false) (by rfl) rfl ?_; cbv)
      refine callL hX (namesA0 0 rfl ?_)
      rw [← hns]
      cbv
      refine callL hX (FnV.use (v_sameS (([] : List FileM).map FileM.name) ns hns (by rw [List.length_map]; first | decide | (have := hD9.len; exact Nat.le_trans this (by decide)))) rfl ?_)
      cbv
      repeat first
        | (simp only [f1, f2, f2b, f2c, f2d, f2e, f2f, f3, f4, f7, f8]; cbv)
        | refine And.intro (by
             subst hA hX hW hFsQ hFsL hFsRu
             clear hH hB
             first
               | exact trivial
               | exact rfl
               | (simp [A0]; done)
               | (intro q; exact q)
               | (intro q; simpa [A0] using q)
               | (intro _; trivial)
               | (show Region.lexB _ _ = true; kernel_rfl)
               | (show turnsB _ = true; kernel_rfl)
               | assumption
               | exact okqM) ?_
        | ((with_reducible refine callB hX hB ?_); cbv; fail_if_success show False)
        | (refine pickL hX (t := true) (by rfl) rfl ?_; cbv)
        | (refine pickL hX (t := false) (by rfl) rfl ?_; cbv)
      have hns0 : ns = [] := by rw [hns]; rfl
      subst hns0
      refine unrollL (T := fun _ => tabY [] [9, 13, 19, 25, 28, 31, 32, 33, 34, 39, 40]) (H := fun _ => [kn_runs GFsRu, kn_same GFsQ]) (tabY_ok _ _) hH follows_mixed hA hX 1 fun R3 hR3 => ?_
      have l0 : A.cmp .lss 0 (A.len []) = false := by subst hA; rfl
      cbv at l0
      refine hR3 _ _ _ ?_
      cbv
      simp only [l0]
      cbv
      repeat first
        | (simp only [f1, f2, f2b, f2c, f2d, f2e, f2f, f3, f4, f7, f8]; cbv)
        | refine And.intro (by
             subst hA hX hW hFsQ hFsL hFsRu
             clear hH hB
             first
               | exact trivial
               | exact rfl
               | (simp [A0]; done)
               | (intro q; exact q)
               | (intro q; simpa [A0] using q)
               | (intro _; trivial)
               | (show Region.lexB _ _ = true; kernel_rfl)
               | (show turnsB _ = true; kernel_rfl)
               | assumption
               | exact okqM) ?_
        | ((with_reducible refine callB hX hB ?_); cbv; fail_if_success show False)
        | (refine pickL hX (t := true) (by rfl) rfl ?_; cbv)
        | (refine pickL hX (t := false) (by rfl) rfl ?_; cbv)
      all_goals subst hA hX hW hFsQ hFsL hFsRu
      exact ret_v rfl rfl
  · obtain ⟨hcs, hnl⟩ : cs = cellsF L ∧ nl = L.length := hI
    cbv
    by_cases hin : i < (xs.length : Int) ∧ i < 40
    · obtain ⟨hlt, hlt40⟩ := hin
      have t0 : A.cond (A.cmp .lss i (A.len xs)) (A.cmp .lss i 40) false = true := by
        subst hA
        show (bif decide (i < (xs.length : Int)) then decide (i < 40) else false) = true
        rw [decide_eq_true hlt, decide_eq_true hlt40]
        rfl
      cbv at t0
      simp only [t0]
      cbv
      obtain ⟨a, hp0, hok⟩ := hrow i i0 hlt
      obtain ⟨k, j, nm, to, d, ps⟩ := a
      obtain ⟨hk, hj, hnm, hto, hd, hps0⟩ := hok
      replace hd : isB d := hd
      have e0 : A.gi (A.lift (A.row xs i)) 0 = k := by subst hA; simp only [A0, hp0]; rfl
      have e1 : A.gi (A.lift (A.row xs i)) (A.pl 0 1) = j := by subst hA; simp only [A0, hp0]; rfl
      have e2 : A.gs (A.lift (A.row xs i)) (A.pl 0 2) = nm := by subst hA; simp only [A0, hp0]; rfl
      have e3 : A.gs (A.lift (A.row xs i)) (A.pl 0 3) = to := by subst hA; simp only [A0, hp0]; rfl
      have e4 : A.gl (A.lift (A.row xs i)) (A.pl 0 4) = d := by subst hA; simp only [A0, hp0]; rfl
      have e5 : A.gl (A.lift (A.row xs i)) (A.pl 0 5) = ps := by subst hA; simp only [A0, hp0]; rfl
      cbv at e0 e1 e2 e3 e4 e5
      repeat first
        | (simp only [f1, f2, f2b, f2c, f2d, f2e, f2f, f3, f4, f7, f8, e0, e1, e2, e3, e4, e5]; cbv)
        | refine And.intro (by
             subst hA hX hW hFsQ hFsL hFsRu
             clear hH hB
             first
               | exact trivial
               | exact rfl
               | (simp [A0]; done)
               | (intro q; exact q)
               | (intro q; simpa [A0] using q)
               | (intro _; trivial)
               | (show Region.lexB _ _ = true; kernel_rfl)
               | (show turnsB _ = true; kernel_rfl)
               | assumption
               | exact okqM
               | exact ⟨i0, hlt⟩
               | (simp only [A0, hp0]; exact ⟨rfl, Nat.le_refl _, rfl⟩)) ?_
        | ((with_reducible refine callB hX hB ?_); cbv; fail_if_success show False)
        | (refine pickL hX (t := true) (by rfl) rfl ?_; cbv)
        | (refine pickL hX (t := false) (by rfl) rfl ?_; cbv)
      refine pauseL hX (s' := [(0, .d (.slc 6 xs)), (3, .ref 0 0 0), (5, .ref 1 0 0), (7, .d (.sc (.int .i64 i))), (8, .ref 4 0 0)]) (st' := [dB n (.view 3 2 vc 0 nl) false false 0, dB n (.view 3 3 vd 0 nl) false false 0, fB cs vc, fB cs vd, ⟨45, [.d (.sc (.int .i64 k)), .d (.sc (.int .i64 j)), .d (.sc (.string nm)), .d (.sc (.string to)), .d (.slc 1 d), .d (.slc 1 ps)], false, 0, true⟩]) (told_less (by simp [toldP, getS])) ?_
      by_cases hsz : d.length ≤ 300 ∧ ps.length ≤ 30
      · obtain ⟨hz1, hz2⟩ := hsz
        have s3 : A.cmp .gtr (A.len d) 300 = false := by subst hA; simp only [A0, decide_eq_false_iff_not]; show ¬ (300 : Int) < (d.length : Int); omega
        have s4 : A.cmp .gtr (A.len ps) 30 = false := by subst hA; simp only [A0, decide_eq_false_iff_not]; show ¬ (30 : Int) < (ps.length : Int); omega
        cbv at s3 s4
        by_cases hk1 : k = 1
        · have r1 : A.cmp .eql k 1 = true := by subst hA; exact decide_eq_true hk1
          cbv at r1
          with_reducible refine goL (T := fun _ => tabY [] []) (H := fun _ => [kn_runs GFsRu, kn_same GFsQ]) (tabY_ok _ _) hH follows_mixed hA hX ?_
          cbv
          repeat first
            | (simp only [f1, f2, f2b, f2c, f2d, f2e, f2f, f3, f4, f7, f8, s3, s4, r1]; cbv)
            | refine And.intro (by
                 subst hA hX hW hFsQ hFsL hFsRu
                 clear hH hB
                 first
                   | exact trivial
                   | exact rfl
                   | (simp [A0]; done)
                   | (intro q; exact q)
                   | (intro q; simpa [A0] using q)
                   | (intro _; trivial)
                   | (show Region.lexB _ _ = true; kernel_rfl)
                   | (show turnsB _ = true; kernel_rfl)
                   | assumption
                   | exact okqM
                   | (show _ ∧ _; simp only [A0]; exact ⟨by omega, by omega⟩)) ?_
            | ((with_reducible refine callB hX hB ?_); cbv; fail_if_success show False)
            | (refine pickL hX (t := true) (by rfl) rfl ?_; cbv)
            | (refine pickL hX (t := false) (by rfl) rfl ?_; cbv)
          obtain ⟨pm, hpm0⟩ : ∃ z, z = A.pl 0 (A.lenN d) := ⟨_, rfl⟩
          obtain ⟨w, hw0⟩ : ∃ z, z = A.nxt 0 := ⟨_, rfl⟩
          obtain ⟨pc, hpc0⟩ : ∃ z, z = A.app [] (A.rows d) := ⟨_, rfl⟩
          have hpm : pm = d.length := by subst hA; rw [hpm0]; exact Nat.zero_add _
          have hpc : pc = rowsD d := by subst hA; rw [hpc0]; rfl
          cbv at hpm0 hw0 hpc0
          obtain ⟨e, L9, hy⟩ := app_some n L nm d
          have hok9 : okD (i.toNat + 1) ⟨n, L9, false, false, 0⟩ := by
            have h1 := hD.app (name := nm) hd
            rw [hy] at h1
            exact h1
          have hok900 : okD 900 ⟨n, L9, false, false, 0⟩ := hok9.mono (by omega)
          have z1 : A.cmp .neq e e = false := by subst hA; show (!decide (e = e)) = false; rw [decide_eq_true rfl]; rfl
          cbv at z1
          have hu8 : ∃ ns, pc = u8L ns ∧ ns.length = pm := by
            obtain ⟨bs, hb1, _⟩ := hd
            obtain ⟨ns, h1, h2⟩ := u8_bytes bs
            exact ⟨ns, by rw [hpc, hb1]; exact h1, by rw [h2, hpm, hb1, bytesP_length]⟩
          refine pauseL hX (s' := [(0, .d (.slc 6 xs)), (3, .ref 0 0 0), (5, .ref 1 0 0), (7, .d (.sc (.int .i64 i))), (8, .ref 4 0 0), (9, .view 1 5 w 0 pm)]) (st' := [dB n (.view 3 2 vc 0 nl) false false 0, dB n (.view 3 3 vd 0 nl) false false 0, fB cs vc, fB cs vd, ⟨45, [.d (.sc (.int .i64 k)), .d (.sc (.int .i64 j)), .d (.sc (.string nm)), .d (.sc (.string to)), .d (.slc 1 d), .d (.slc 1 ps)], false, 0, true⟩, ⟨5, pc, true, w, true⟩]) (told_eq8 (by rw [hpc0, hw0]) ?_) ?_
          · simp [toldP, getS, hw0, hpm0]
          obtain ⟨n9, hn9⟩ : ∃ z, z = L9.length := ⟨_, rfl⟩
          obtain ⟨c9, hc9⟩ : ∃ z, z = cellsF L9 := ⟨_, rfl⟩
          obtain ⟨wc, hwc⟩ : ∃ z, z = vc + 9 := ⟨_, rfl⟩
          obtain ⟨wd, hwd⟩ : ∃ z, z = vd + 9 := ⟨_, rfl⟩
          have hB2 : SoundB Try.prog [twoB 11 0 [.ref 0 0 0, .d (.sc (.string nm)), .view 1 5 w 0 pm] [.ref 1 0 0, .d (.sc (.string nm)), .d (.slc 1 d)] [dB n (.view 3 2 vc 0 nl) false false 0, dB n (.view 3 3 vd 0 nl) false false 0, fB cs vc, fB cs vd, ⟨45, [.d (.sc (.int .i64 k)), .d (.sc (.int .i64 j)), .d (.sc (.string nm)), .d (.sc (.string to)), .d (.slc 1 d), .d (.slc 1 ps)], false, 0, true⟩, ⟨5, pc, true, w, true⟩] [dB n (.view 3 2 wc 0 n9) false false 0, dB n (.view 3 3 vd 0 nl) false false 0, fB c9 wc, fB cs vd, ⟨45, [.d (.sc (.int .i64 k)), .d (.sc (.int .i64 j)), .d (.sc (.string nm)), .d (.sc (.string to)), .d (.slc 1 d), .d (.slc 1 ps)], false, 0, true⟩, ⟨5, pc, true, w, true⟩] (.d (.sc (.int .i64 e))) (.d (.sc (.int .i64 e))) [dB n (.view 3 2 wc 0 n9) false false 0, dB n (.view 3 3 vd 0 nl) false false 0, fB c9 wc, fB cs vd, ⟨45, [.d (.sc (.int .i64 k)), .d (.sc (.int .i64 j)), .d (.sc (.string nm)), .d (.sc (.string to)), .d (.slc 1 d), .d (.slc 1 ps)], false, 0, true⟩, ⟨5, pc, true, w, true⟩] [dB n (.view 3 2 wc 0 n9) false false 0, dB n (.view 3 3 wd 0 n9) false false 0, fB c9 wc, fB c9 wd, ⟨45, [.d (.sc (.int .i64 k)), .d (.sc (.int .i64 j)), .d (.sc (.string nm)), .d (.sc (.string to)), .d (.slc 1 d), .d (.slc 1 ps)], false, 0, true⟩, ⟨5, pc, true, w, true⟩]] := by
            refine orB_ok (twoB_ok (fun K hK => ?_) (fun K hK => ?_)) noB_ok
            · exact appVA1 nm d 0 2 5 rfl rfl rfl (by decide) (by decide) (by decide) hcs hnl hD9 hnm hd hpc hpm hy (fun n8 c8 h8 h7 => by rw [h8, h7, ← hn9, ← hc9, ← hwc]; exact hK)
            · exact appA1 nm d 1 3 rfl rfl (by decide) hcs hnl hD9 hnm hd hy (fun n8 c8 h8 h7 => by rw [h8, h7, ← hn9, ← hc9, ← hwd]; exact hK)
          (with_reducible refine regionB [11] (T := fun _ => tabY [] []) (H := fun _ => [kn_runs GFsRu, kn_same GFsQ]) (B := fun _ => [twoB 11 0 [.ref 0 0 0, .d (.sc (.string nm)), .view 1 5 w 0 pm] [.ref 1 0 0, .d (.sc (.string nm)), .d (.slc 1 d)] [dB n (.view 3 2 vc 0 nl) false false 0, dB n (.view 3 3 vd 0 nl) false false 0, fB cs vc, fB cs vd, ⟨45, [.d (.sc (.int .i64 k)), .d (.sc (.int .i64 j)), .d (.sc (.string nm)), .d (.sc (.string to)), .d (.slc 1 d), .d (.slc 1 ps)], false, 0, true⟩, ⟨5, pc, true, w, true⟩] [dB n (.view 3 2 wc 0 n9) false false 0, dB n (.view 3 3 vd 0 nl) false false 0, fB c9 wc, fB cs vd, ⟨45, [.d (.sc (.int .i64 k)), .d (.sc (.int .i64 j)), .d (.sc (.string nm)), .d (.sc (.string to)), .d (.slc 1 d), .d (.slc 1 ps)], false, 0, true⟩, ⟨5, pc, true, w, true⟩] (.d (.sc (.int .i64 e))) (.d (.sc (.int .i64 e))) [dB n (.view 3 2 wc 0 n9) false false 0, dB n (.view 3 3 vd 0 nl) false false 0, fB c9 wc, fB cs vd, ⟨45, [.d (.sc (.int .i64 k)), .d (.sc (.int .i64 j)), .d (.sc (.string nm)), .d (.sc (.string to)), .d (.slc 1 d), .d (.slc 1 ps)], false, 0, true⟩, ⟨5, pc, true, w, true⟩] [dB n (.view 3 2 wc 0 n9) false false 0, dB n (.view 3 3 wd 0 n9) false false 0, fB c9 wc, fB c9 wd, ⟨45, [.d (.sc (.int .i64 k)), .d (.sc (.int .i64 j)), .d (.sc (.string nm)), .d (.sc (.string to)), .d (.slc 1 d), .d (.slc 1 ps)], false, 0, true⟩, ⟨5, pc, true, w, true⟩]]) (A := A) (tabY_ok _ _) hH hB2 follows_mixed hA hX (by kernel_rfl) (by kernel_rfl) ?_) <;> cbv
          clear hB2
          repeat first
            | (simp only [f1, f2, f2b, f2c, f2d, f2e, f2f, f3, f4, f7, f8, z1]; cbv)
            | refine And.intro (by
                 subst hA hX hW hFsQ hFsL hFsRu
                 clear hH hB
                 first
                   | exact trivial
                   | exact rfl
                   | (simp [A0]; done)
                   | (intro q; exact q)
                   | (intro q; simpa [A0] using q)
                   | (intro _; trivial)
                   | (show Region.lexB _ _ = true; kernel_rfl)
                   | (show turnsB _ = true; kernel_rfl)
                   | assumption
                   | exact okqM) ?_
            | ((with_reducible refine callB hX hB ?_); cbv; fail_if_success show False)
            | (refine pickL hX (t := true) (by rfl) rfl ?_; cbv)
            | (refine pickL hX (t := false) (by rfl) rfl ?_; cbv)
          refine loopL (T := fun _ => tabY [94, 97] [9, 13, 19, 25, 28, 31, 32, 33, 34, 39, 40]) (H := fun _ => [kn_runs GFsRu, kn_same GFsQ]) (tabY_ok _ _) hH follows_mixed hA hX (fun x : Int × List DV => (0 ≤ x.1 ∧ x.1 ≤ (pm : Int)) ∧ ∃ ns, x.2 = u8L ns ∧ ns.length = pm) (fun x => [(0, .d (.slc 6 xs)), (3, .ref 0 0 0), (5, .ref 1 0 0), (7, .d (.sc (.int .i64 i))), (8, .ref 4 0 0), (9, .view 1 5 w 0 pm), (10, .d (.sc (.int .i64 x.1)))]) (fun x => [dB n (.view 3 2 wc 0 n9) false false 0, dB n (.view 3 3 wd 0 n9) false false 0, fB c9 wc, fB c9 wd, ⟨45, [.d (.sc (.int .i64 k)), .d (.sc (.int .i64 j)), .d (.sc (.string nm)), .d (.sc (.string to)), .d (.slc 1 d), .d (.slc 1 ps)], false, 0, true⟩, ⟨5, x.2, true, w, true⟩]) (fun x => ((pm : Int) - x.1).toNat) (0, pc) ?_ ?_ ?_
          · exact ⟨⟨Int.le_refl 0, Int.natCast_nonneg _⟩, hu8⟩
          · exact told_less (by simp [toldP, getS])
          rintro R2 ⟨j2, cc⟩ hR2 ⟨hj2, ns, hns, hnsl⟩
          replace hj2 : 0 ≤ j2 ∧ j2 ≤ (pm : Int) := hj2
          replace hns : cc = u8L ns := hns
          cbv
          by_cases hlt2 : j2 < (pm : Int)
          · have t1 : A.cmp .lss j2 (A.int pm) = true := by subst hA; exact decide_eq_true hlt2
            cbv at t1
            simp only [t1]
            cbv
            replace hj2 : 0 ≤ j2 ∧ j2 ≤ (pm : Int) := hj2
            replace hlt2 : j2 < (pm : Int) := hlt2
            replace hnsl : ns.length = pm := hnsl
            have hnb : pm ≤ 8000000 := by first | omega | (clear hnsl; replace hkb : pm ≤ 8000000 := hkb; omega)
            have hnat : j2.toNat < ns.length := by omega
            obtain ⟨x0, g1, g2⟩ := u8_at hnat
            have hcl : (u8L ns).length = ns.length := by simp [u8L]
            have hw2 : IntKind.wrap .i64 (j2 + 1) = j2 + 1 := wrap_i64 (by unfold r64; omega)
            repeat' (refine And.intro ?_ ?_)
            all_goals subst hA
            all_goals first
              | rfl
              | exact ⟨hj2.1, hlt2⟩
              | (show (_ : Nat) ≤ _; simp only [A0, hns, Nat.zero_add, Nat.mul_one]; omega)
              | (simp only [A0, hns, Nat.zero_add, Nat.mul_one, g1]; refine ⟨rfl, by omega, ?_⟩; rw [g2]; rfl)
              | (rw [hR2]
                 refine ⟨(j2 + 1, _), ⟨⟨?_, ?_⟩, ?_⟩, ?_, told_eq8 rfl ?_⟩
                 · show 0 ≤ j2 + 1
                   omega
                 · show j2 + 1 ≤ (pm : Int)
                   omega
                 · rw [← hnsl]
                   show ∃ ms, splice cc (0 + j2.toNat * 1) _ = u8L ms ∧ _
                   rw [hns, Nat.zero_add, Nat.mul_one]
                   exact u8_set hnat _
                 · show ((pm : Int) - (j2 + 1)).toNat < ((pm : Int) - j2).toNat
                   omega
                 · simp [toldP, getS, A0, hw2])
              | fail
          · have t1 : A.cmp .lss j2 (A.int pm) = false := by subst hA; exact decide_eq_false hlt2
            cbv at t1
            simp only [t1]
            cbv
            repeat (refine And.intro (by subst hA; exact rfl) ?_)
            refine pauseL hX (s' := [(0, .d (.slc 6 xs)), (3, .ref 0 0 0), (5, .ref 1 0 0), (7, .d (.sc (.int .i64 i))), (8, .ref 4 0 0)]) (told_less (by simp [toldP, getS])) ?_
            with_reducible refine goL (T := fun _ => tabY [] []) (H := fun _ => [kn_runs GFsRu, kn_same GFsQ]) (tabY_ok _ _) hH follows_mixed hA hX ?_
            cbv
            repeat first
              | (simp only [f1, f2, f2b, f2c, f2d, f2e, f2f, f3, f4, f7, f8]; cbv)
              | refine And.intro (by
                   subst hA hX hW hFsQ hFsL hFsRu
                   clear hH hB
                   first
                     | exact trivial
                     | exact rfl
                     | (simp [A0]; done)
                     | (intro q; exact q)
                     | (intro q; simpa [A0] using q)
                     | (intro _; trivial)
                     | (show Region.lexB _ _ = true; kernel_rfl)
                     | (show turnsB _ = true; kernel_rfl)
                     | assumption
                     | exact okqM) ?_
              | ((with_reducible refine callB hX hB ?_); cbv; fail_if_success show False)
              | (refine pickL hX (t := true) (by rfl) rfl ?_; cbv)
              | (refine pickL hX (t := false) (by rfl) rfl ?_; cbv)
            refine callL hX (readO nm 0 2 L9 rfl rfl (by decide) hc9 hn9 hok900 (fun t => ?_) (fun u3 k3 p3 x3 hx3 hp3 hk3 => ?_))
            · cbv
              refine unrollL (T := fun _ => tabY [] [9, 13, 19, 25, 28, 31, 32, 33, 34, 39, 40]) (H := fun _ => [kn_runs GFsRu, kn_same GFsQ]) (tabY_ok _ _) hH follows_mixed hA hX 1 fun R3 hR3 => ?_
              have l0 : A.cmp .lss 0 0 = false := by subst hA; rfl
              cbv at l0
              refine hR3 _ _ _ ?_
              cbv
              simp only [l0]
              cbv
              replace i0 : 0 ≤ i := i0
              replace hlt : i < (xs.length : Int) := hlt
              replace hlt40 : i < 40 := hlt40
              have wi : IntKind.wrap .i64 (i + 1) = i + 1 := wrap_i64 (by unfold r64; omega)
              subst hR
              refine ⟨(i + 1, some (wc, wd, n9, c9), L9), ⟨⟨by show 0 ≤ i + 1; omega, by show i + 1 ≤ 40; omega⟩, ?_, ⟨hc9, hn9⟩⟩, by show 40 - (i + 1).toNat < 40 - i.toNat; omega, ?_⟩
              · show okD (i + 1).toNat _
                rw [show (i + 1).toNat = i.toNat + 1 by omega]
                exact hok9
              · have hpsC : ∀ κ (M : List FileM), pullL κ (cellsF M) = cellsF M := fun κ M => by rw [pullL_eq]; exact pull_rows κ _
                subst hA
                refine told_keep [0, 1, 2, 3] rfl ?_ ?_
                · simp only [keepSt, List.map_cons, List.map_nil, pullBox, List.getD_cons_zero, List.getD_cons_succ, twT, pullL, pullD]
                  try simp only [hc9, hpsC]
                  try rfl
                · simp [toldP, getS, A0, wi, pullD]
                  try (repeat' (first | rfl | apply And.intro))
            · cbv
              have hu8 : ∃ ns, p3 = u8L ns ∧ ns.length = k3 := by
                obtain ⟨bs, hb1, _⟩ := hx3
                obtain ⟨ns, h1, h2⟩ := u8_bytes bs
                exact ⟨ns, by rw [hp3, hb1]; exact h1, by rw [h2, hk3, hb1, bytesP_length]⟩
              clear hns hnsl hj2 hlt2 t1
              have hkb : k3 ≤ 8000000 := by
                obtain ⟨bs, hb1, hb2⟩ := id hx3
                rw [hk3, hb1, bytesP_length]
                omega
              refine loopL (T := fun _ => tabY [113, 116] [9, 13, 19, 25, 28, 31, 32, 33, 34, 39, 40]) (H := fun _ => [kn_runs GFsRu, kn_same GFsQ]) (tabY_ok _ _) hH follows_mixed hA hX (fun x : Int × List DV => (0 ≤ x.1 ∧ x.1 ≤ (k3 : Int)) ∧ ∃ ns, x.2 = u8L ns ∧ ns.length = k3) (fun x => [(0, .d (.slc 6 xs)), (3, .ref 0 0 0), (5, .ref 1 0 0), (7, .d (.sc (.int .i64 i))), (8, .ref 4 0 0), (11, .view 1 6 u3 0 k3), (13, .d (.sc (.int .i64 x.1)))]) (fun x => [dB n (.view 3 2 wc 0 n9) false false 0, dB n (.view 3 3 wd 0 n9) false false 0, fB c9 wc, fB c9 wd, ⟨45, [.d (.sc (.int .i64 k)), .d (.sc (.int .i64 j)), .d (.sc (.string nm)), .d (.sc (.string to)), .d (.slc 1 d), .d (.slc 1 ps)], false, 0, true⟩, ⟨5, cc, true, w, true⟩, ⟨5, x.2, true, u3, true⟩]) (fun x => ((k3 : Int) - x.1).toNat) (0, p3) ?_ ?_ ?_
              · exact ⟨⟨Int.le_refl 0, Int.natCast_nonneg _⟩, hu8⟩
              · exact told_less (by simp [toldP, getS])
              rintro R4 ⟨j3, c3⟩ hR4 ⟨hj3, ns, hns, hnsl⟩
              replace hj3 : 0 ≤ j3 ∧ j3 ≤ (k3 : Int) := hj3
              replace hns : c3 = u8L ns := hns
              cbv
              by_cases hlt3 : j3 < (k3 : Int)
              · have t1 : A.cmp .lss j3 (A.int k3) = true := by subst hA; exact decide_eq_true hlt3
                cbv at t1
                simp only [t1]
                cbv
                replace hj3 : 0 ≤ j3 ∧ j3 ≤ (k3 : Int) := hj3
                replace hlt3 : j3 < (k3 : Int) := hlt3
                replace hnsl : ns.length = k3 := hnsl
                have hnb : k3 ≤ 8000000 := by first | omega | (clear hnsl; replace hkb : k3 ≤ 8000000 := hkb; omega)
                have hnat : j3.toNat < ns.length := by omega
                obtain ⟨x0, g1, g2⟩ := u8_at hnat
                have hcl : (u8L ns).length = ns.length := by simp [u8L]
                have hw2 : IntKind.wrap .i64 (j3 + 1) = j3 + 1 := wrap_i64 (by unfold r64; omega)
                repeat' (refine And.intro ?_ ?_)
                all_goals subst hA
                all_goals first
                  | rfl
                  | exact ⟨hj3.1, hlt3⟩
                  | (show (_ : Nat) ≤ _; simp only [A0, hns, Nat.zero_add, Nat.mul_one]; omega)
                  | (simp only [A0, hns, Nat.zero_add, Nat.mul_one, g1]; refine ⟨rfl, by omega, ?_⟩; rw [g2]; rfl)
                  | (rw [hR4]
                     refine ⟨(j3 + 1, _), ⟨⟨?_, ?_⟩, ?_⟩, ?_, told_eq8 rfl ?_⟩
                     · show 0 ≤ j3 + 1
                       omega
                     · show j3 + 1 ≤ (k3 : Int)
                       omega
                     · rw [← hnsl]
                       show ∃ ms, splice c3 (0 + j3.toNat * 1) _ = u8L ms ∧ _
                       rw [hns, Nat.zero_add, Nat.mul_one]
                       exact u8_set hnat _
                     · show ((k3 : Int) - (j3 + 1)).toNat < ((k3 : Int) - j3).toNat
                       omega
                     · simp [toldP, getS, A0, hw2])
                  | fail
              · have t1 : A.cmp .lss j3 (A.int k3) = false := by subst hA; exact decide_eq_false hlt3
                cbv at t1
                simp only [t1]
                cbv
                repeat (refine And.intro (by subst hA; exact rfl) ?_)
                replace i0 : 0 ≤ i := i0
                replace hlt : i < (xs.length : Int) := hlt
                replace hlt40 : i < 40 := hlt40
                have wi : IntKind.wrap .i64 (i + 1) = i + 1 := wrap_i64 (by unfold r64; omega)
                subst hR
                refine ⟨(i + 1, some (wc, wd, n9, c9), L9), ⟨⟨by show 0 ≤ i + 1; omega, by show i + 1 ≤ 40; omega⟩, ?_, ⟨hc9, hn9⟩⟩, by show 40 - (i + 1).toNat < 40 - i.toNat; omega, ?_⟩
                · show okD (i + 1).toNat _
                  rw [show (i + 1).toNat = i.toNat + 1 by omega]
                  exact hok9
                · have hpsC : ∀ κ (M : List FileM), pullL κ (cellsF M) = cellsF M := fun κ M => by rw [pullL_eq]; exact pull_rows κ _
                  subst hA
                  refine told_keep [0, 1, 2, 3] rfl ?_ ?_
                  · simp only [keepSt, List.map_cons, List.map_nil, pullBox, List.getD_cons_zero, List.getD_cons_succ, twT, pullL, pullD]
                    try simp only [hc9, hpsC]
                    try rfl
                  · simp [toldP, getS, A0, wi, pullD]
                    try (repeat' (first | rfl | apply And.intro))
        have r1 : A.cmp .eql k 1 = false := by subst hA; exact decide_eq_false hk1
        cbv at r1

        by_cases hk2 : k = 2
        · have r2 : A.cmp .eql k 2 = true := by subst hA; exact decide_eq_true hk2
          cbv at r2
          with_reducible refine goL (T := fun _ => tabY [] []) (H := fun _ => [kn_runs GFsRu, kn_same GFsQ]) (tabY_ok _ _) hH follows_mixed hA hX ?_
          cbv
          repeat first
            | (simp only [f1, f2, f2b, f2c, f2d, f2e, f2f, f3, f4, f7, f8, s3, s4, r1, r2]; cbv)
            | refine And.intro (by
                 subst hA hX hW hFsQ hFsL hFsRu
                 clear hH hB
                 first
                   | exact trivial
                   | exact rfl
                   | (simp [A0]; done)
                   | (intro q; exact q)
                   | (intro q; simpa [A0] using q)
                   | (intro _; trivial)
                   | (show Region.lexB _ _ = true; kernel_rfl)
                   | (show turnsB _ = true; kernel_rfl)
                   | assumption
                   | exact okqM
                   | (show _ ∧ _; simp only [A0]; exact ⟨by omega, by omega⟩)) ?_
            | ((with_reducible refine callB hX hB ?_); cbv; fail_if_success show False)
            | (refine pickL hX (t := true) (by rfl) rfl ?_; cbv)
            | (refine pickL hX (t := false) (by rfl) rfl ?_; cbv)
          obtain ⟨pm, hpm0⟩ : ∃ z, z = A.pl 0 (A.lenN d) := ⟨_, rfl⟩
          obtain ⟨w, hw0⟩ : ∃ z, z = A.nxt 0 := ⟨_, rfl⟩
          obtain ⟨pc, hpc0⟩ : ∃ z, z = A.app [] (A.rows d) := ⟨_, rfl⟩
          have hpm : pm = d.length := by subst hA; rw [hpm0]; exact Nat.zero_add _
          have hpc : pc = rowsD d := by subst hA; rw [hpc0]; rfl
          cbv at hpm0 hw0 hpc0
          obtain ⟨e, L9, hy⟩ := sync_some n L nm
          have hok9 : okD (i.toNat + 1) ⟨n, L9, false, false, 0⟩ := by
            have h1 := hD.sync nm
            rw [hy] at h1
            exact h1.mono (Nat.le_succ _)
          have z1 : A.cmp .neq e e = false := by subst hA; show (!decide (e = e)) = false; rw [decide_eq_true rfl]; rfl
          cbv at z1
          refine pauseL hX (s' := [(0, .d (.slc 6 xs)), (3, .ref 0 0 0), (5, .ref 1 0 0), (7, .d (.sc (.int .i64 i))), (8, .ref 4 0 0)]) (st' := [dB n (.view 3 2 vc 0 nl) false false 0, dB n (.view 3 3 vd 0 nl) false false 0, fB cs vc, fB cs vd, ⟨45, [.d (.sc (.int .i64 k)), .d (.sc (.int .i64 j)), .d (.sc (.string nm)), .d (.sc (.string to)), .d (.slc 1 d), .d (.slc 1 ps)], false, 0, true⟩, ⟨5, pc, true, w, true⟩]) (told_eq8 (by rw [hpc0, hw0]) (by simp [toldP, getS])) ?_
          obtain ⟨n9, hn9⟩ : ∃ z, z = L9.length := ⟨_, rfl⟩
          obtain ⟨c9, hc9⟩ : ∃ z, z = cellsF L9 := ⟨_, rfl⟩
          obtain ⟨wc, hwc⟩ : ∃ z, z = vc + 9 := ⟨_, rfl⟩
          obtain ⟨wd, hwd⟩ : ∃ z, z = vd + 9 := ⟨_, rfl⟩
          have hB2 : SoundB Try.prog [twoB 12 0 [.ref 0 0 0, .d (.sc (.string nm))] [.ref 1 0 0, .d (.sc (.string nm))] [dB n (.view 3 2 vc 0 nl) false false 0, dB n (.view 3 3 vd 0 nl) false false 0, fB cs vc, fB cs vd, ⟨45, [.d (.sc (.int .i64 k)), .d (.sc (.int .i64 j)), .d (.sc (.string nm)), .d (.sc (.string to)), .d (.slc 1 d), .d (.slc 1 ps)], false, 0, true⟩, ⟨5, pc, true, w, true⟩] [dB n (.view 3 2 wc 0 n9) false false 0, dB n (.view 3 3 vd 0 nl) false false 0, fB c9 wc, fB cs vd, ⟨45, [.d (.sc (.int .i64 k)), .d (.sc (.int .i64 j)), .d (.sc (.string nm)), .d (.sc (.string to)), .d (.slc 1 d), .d (.slc 1 ps)], false, 0, true⟩, ⟨5, pc, true, w, true⟩] (.d (.sc (.int .i64 e))) (.d (.sc (.int .i64 e))) [dB n (.view 3 2 wc 0 n9) false false 0, dB n (.view 3 3 vd 0 nl) false false 0, fB c9 wc, fB cs vd, ⟨45, [.d (.sc (.int .i64 k)), .d (.sc (.int .i64 j)), .d (.sc (.string nm)), .d (.sc (.string to)), .d (.slc 1 d), .d (.slc 1 ps)], false, 0, true⟩, ⟨5, pc, true, w, true⟩] [dB n (.view 3 2 wc 0 n9) false false 0, dB n (.view 3 3 wd 0 n9) false false 0, fB c9 wc, fB c9 wd, ⟨45, [.d (.sc (.int .i64 k)), .d (.sc (.int .i64 j)), .d (.sc (.string nm)), .d (.sc (.string to)), .d (.slc 1 d), .d (.slc 1 ps)], false, 0, true⟩, ⟨5, pc, true, w, true⟩]] := by
            refine orB_ok (twoB_ok (fun K hK => ?_) (fun K hK => ?_)) noB_ok
            · exact syncA1 nm 0 2 rfl rfl (by decide) hcs hnl hD9 hy (fun n8 c8 h8 h7 => by rw [h8, h7, ← hn9, ← hc9, ← hwc]; exact hK)
            · exact syncA1 nm 1 3 rfl rfl (by decide) hcs hnl hD9 hy (fun n8 c8 h8 h7 => by rw [h8, h7, ← hn9, ← hc9, ← hwd]; exact hK)
          (with_reducible refine regionB [12] (T := fun _ => tabY [] []) (H := fun _ => [kn_runs GFsRu, kn_same GFsQ]) (B := fun _ => [twoB 12 0 [.ref 0 0 0, .d (.sc (.string nm))] [.ref 1 0 0, .d (.sc (.string nm))] [dB n (.view 3 2 vc 0 nl) false false 0, dB n (.view 3 3 vd 0 nl) false false 0, fB cs vc, fB cs vd, ⟨45, [.d (.sc (.int .i64 k)), .d (.sc (.int .i64 j)), .d (.sc (.string nm)), .d (.sc (.string to)), .d (.slc 1 d), .d (.slc 1 ps)], false, 0, true⟩, ⟨5, pc, true, w, true⟩] [dB n (.view 3 2 wc 0 n9) false false 0, dB n (.view 3 3 vd 0 nl) false false 0, fB c9 wc, fB cs vd, ⟨45, [.d (.sc (.int .i64 k)), .d (.sc (.int .i64 j)), .d (.sc (.string nm)), .d (.sc (.string to)), .d (.slc 1 d), .d (.slc 1 ps)], false, 0, true⟩, ⟨5, pc, true, w, true⟩] (.d (.sc (.int .i64 e))) (.d (.sc (.int .i64 e))) [dB n (.view 3 2 wc 0 n9) false false 0, dB n (.view 3 3 vd 0 nl) false false 0, fB c9 wc, fB cs vd, ⟨45, [.d (.sc (.int .i64 k)), .d (.sc (.int .i64 j)), .d (.sc (.string nm)), .d (.sc (.string to)), .d (.slc 1 d), .d (.slc 1 ps)], false, 0, true⟩, ⟨5, pc, true, w, true⟩] [dB n (.view 3 2 wc 0 n9) false false 0, dB n (.view 3 3 wd 0 n9) false false 0, fB c9 wc, fB c9 wd, ⟨45, [.d (.sc (.int .i64 k)), .d (.sc (.int .i64 j)), .d (.sc (.string nm)), .d (.sc (.string to)), .d (.slc 1 d), .d (.slc 1 ps)], false, 0, true⟩, ⟨5, pc, true, w, true⟩]]) (A := A) (tabY_ok _ _) hH hB2 follows_mixed hA hX (by kernel_rfl) (by kernel_rfl) ?_) <;> cbv
          clear hB2
          repeat first
            | (simp only [f1, f2, f2b, f2c, f2d, f2e, f2f, f3, f4, f7, f8, z1]; cbv)
            | refine And.intro (by
                 subst hA hX hW hFsQ hFsL hFsRu
                 clear hH hB
                 first
                   | exact trivial
                   | exact rfl
                   | (simp [A0]; done)
                   | (intro q; exact q)
                   | (intro q; simpa [A0] using q)
                   | (intro _; trivial)
                   | (show Region.lexB _ _ = true; kernel_rfl)
                   | (show turnsB _ = true; kernel_rfl)
                   | assumption
                   | exact okqM) ?_
            | ((with_reducible refine callB hX hB ?_); cbv; fail_if_success show False)
            | (refine pickL hX (t := true) (by rfl) rfl ?_; cbv)
            | (refine pickL hX (t := false) (by rfl) rfl ?_; cbv)
          replace i0 : 0 ≤ i := i0
          replace hlt : i < (xs.length : Int) := hlt
          replace hlt40 : i < 40 := hlt40
          have wi : IntKind.wrap .i64 (i + 1) = i + 1 := wrap_i64 (by unfold r64; omega)
          subst hR
          refine ⟨(i + 1, some (wc, wd, n9, c9), L9), ⟨⟨by show 0 ≤ i + 1; omega, by show i + 1 ≤ 40; omega⟩, ?_, ⟨hc9, hn9⟩⟩, by show 40 - (i + 1).toNat < 40 - i.toNat; omega, ?_⟩
          · show okD (i + 1).toNat _
            rw [show (i + 1).toNat = i.toNat + 1 by omega]
            exact hok9
          · have hpsC : ∀ κ (M : List FileM), pullL κ (cellsF M) = cellsF M := fun κ M => by rw [pullL_eq]; exact pull_rows κ _
            subst hA
            refine told_keep [0, 1, 2, 3] rfl ?_ ?_
            · simp only [keepSt, List.map_cons, List.map_nil, pullBox, List.getD_cons_zero, List.getD_cons_succ, twT, pullL, pullD]
              try simp only [hc9, hpsC]
              try rfl
            · simp [toldP, getS, A0, wi, pullD]
              try (repeat' (first | rfl | apply And.intro))
        have r2 : A.cmp .eql k 2 = false := by subst hA; exact decide_eq_false hk2
        cbv at r2

        by_cases hk4 : k = 4
        · have r4 : A.cmp .eql k 4 = true := by subst hA; exact decide_eq_true hk4
          cbv at r4
          with_reducible refine goL (T := fun _ => tabY [] []) (H := fun _ => [kn_runs GFsRu, kn_same GFsQ]) (tabY_ok _ _) hH follows_mixed hA hX ?_
          cbv
          repeat first
            | (simp only [f1, f2, f2b, f2c, f2d, f2e, f2f, f3, f4, f7, f8, s3, s4, r1, r2, r4]; cbv)
            | refine And.intro (by
                 subst hA hX hW hFsQ hFsL hFsRu
                 clear hH hB
                 first
                   | exact trivial
                   | exact rfl
                   | (simp [A0]; done)
                   | (intro q; exact q)
                   | (intro q; simpa [A0] using q)
                   | (intro _; trivial)
                   | (show Region.lexB _ _ = true; kernel_rfl)
                   | (show turnsB _ = true; kernel_rfl)
                   | assumption
                   | exact okqM
                   | (show _ ∧ _; simp only [A0]; exact ⟨by omega, by omega⟩)) ?_
            | ((with_reducible refine callB hX hB ?_); cbv; fail_if_success show False)
            | (refine pickL hX (t := true) (by rfl) rfl ?_; cbv)
            | (refine pickL hX (t := false) (by rfl) rfl ?_; cbv)
          obtain ⟨pm, hpm0⟩ : ∃ z, z = A.pl 0 (A.lenN d) := ⟨_, rfl⟩
          obtain ⟨w, hw0⟩ : ∃ z, z = A.nxt 0 := ⟨_, rfl⟩
          obtain ⟨pc, hpc0⟩ : ∃ z, z = A.app [] (A.rows d) := ⟨_, rfl⟩
          have hpm : pm = d.length := by subst hA; rw [hpm0]; exact Nat.zero_add _
          have hpc : pc = rowsD d := by subst hA; rw [hpc0]; rfl
          cbv at hpm0 hw0 hpc0
          obtain ⟨e, L9, hy⟩ := ren_some n L nm to
          have hok9 : okD (i.toNat + 1) ⟨n, L9, false, false, 0⟩ := by
            have h1 := hD.ren nm to
            rw [hy] at h1
            exact h1.mono (Nat.le_succ _)
          have z1 : A.cmp .neq e e = false := by subst hA; show (!decide (e = e)) = false; rw [decide_eq_true rfl]; rfl
          cbv at z1
          refine pauseL hX (s' := [(0, .d (.slc 6 xs)), (3, .ref 0 0 0), (5, .ref 1 0 0), (7, .d (.sc (.int .i64 i))), (8, .ref 4 0 0)]) (st' := [dB n (.view 3 2 vc 0 nl) false false 0, dB n (.view 3 3 vd 0 nl) false false 0, fB cs vc, fB cs vd, ⟨45, [.d (.sc (.int .i64 k)), .d (.sc (.int .i64 j)), .d (.sc (.string nm)), .d (.sc (.string to)), .d (.slc 1 d), .d (.slc 1 ps)], false, 0, true⟩, ⟨5, pc, true, w, true⟩]) (told_eq8 (by rw [hpc0, hw0]) (by simp [toldP, getS])) ?_
          obtain ⟨n9, hn9⟩ : ∃ z, z = L9.length := ⟨_, rfl⟩
          obtain ⟨c9, hc9⟩ : ∃ z, z = cellsF L9 := ⟨_, rfl⟩
          obtain ⟨wc, hwc⟩ : ∃ z, z = vc + 9 := ⟨_, rfl⟩
          obtain ⟨wd, hwd⟩ : ∃ z, z = vd + 9 := ⟨_, rfl⟩
          have hB2 : SoundB Try.prog [twoB 23 0 [.ref 0 0 0, .d (.sc (.string nm)), .d (.sc (.string to))] [.ref 1 0 0, .d (.sc (.string nm)), .d (.sc (.string to))] [dB n (.view 3 2 vc 0 nl) false false 0, dB n (.view 3 3 vd 0 nl) false false 0, fB cs vc, fB cs vd, ⟨45, [.d (.sc (.int .i64 k)), .d (.sc (.int .i64 j)), .d (.sc (.string nm)), .d (.sc (.string to)), .d (.slc 1 d), .d (.slc 1 ps)], false, 0, true⟩, ⟨5, pc, true, w, true⟩] [dB n (.view 3 2 wc 0 n9) false false 0, dB n (.view 3 3 vd 0 nl) false false 0, fB c9 wc, fB cs vd, ⟨45, [.d (.sc (.int .i64 k)), .d (.sc (.int .i64 j)), .d (.sc (.string nm)), .d (.sc (.string to)), .d (.slc 1 d), .d (.slc 1 ps)], false, 0, true⟩, ⟨5, pc, true, w, true⟩] (.d (.sc (.int .i64 e))) (.d (.sc (.int .i64 e))) [dB n (.view 3 2 wc 0 n9) false false 0, dB n (.view 3 3 vd 0 nl) false false 0, fB c9 wc, fB cs vd, ⟨45, [.d (.sc (.int .i64 k)), .d (.sc (.int .i64 j)), .d (.sc (.string nm)), .d (.sc (.string to)), .d (.slc 1 d), .d (.slc 1 ps)], false, 0, true⟩, ⟨5, pc, true, w, true⟩] [dB n (.view 3 2 wc 0 n9) false false 0, dB n (.view 3 3 wd 0 n9) false false 0, fB c9 wc, fB c9 wd, ⟨45, [.d (.sc (.int .i64 k)), .d (.sc (.int .i64 j)), .d (.sc (.string nm)), .d (.sc (.string to)), .d (.slc 1 d), .d (.slc 1 ps)], false, 0, true⟩, ⟨5, pc, true, w, true⟩]] := by
            refine orB_ok (twoB_ok (fun K hK => ?_) (fun K hK => ?_)) noB_ok
            · exact renA1 nm to 0 2 rfl rfl (by decide) hcs hnl hD9 hto hy (fun n8 c8 h8 h7 => by rw [h8, h7, ← hn9, ← hc9, ← hwc]; exact hK)
            · exact renA1 nm to 1 3 rfl rfl (by decide) hcs hnl hD9 hto hy (fun n8 c8 h8 h7 => by rw [h8, h7, ← hn9, ← hc9, ← hwd]; exact hK)
          (with_reducible refine regionB [23] (T := fun _ => tabY [] []) (H := fun _ => [kn_runs GFsRu, kn_same GFsQ]) (B := fun _ => [twoB 23 0 [.ref 0 0 0, .d (.sc (.string nm)), .d (.sc (.string to))] [.ref 1 0 0, .d (.sc (.string nm)), .d (.sc (.string to))] [dB n (.view 3 2 vc 0 nl) false false 0, dB n (.view 3 3 vd 0 nl) false false 0, fB cs vc, fB cs vd, ⟨45, [.d (.sc (.int .i64 k)), .d (.sc (.int .i64 j)), .d (.sc (.string nm)), .d (.sc (.string to)), .d (.slc 1 d), .d (.slc 1 ps)], false, 0, true⟩, ⟨5, pc, true, w, true⟩] [dB n (.view 3 2 wc 0 n9) false false 0, dB n (.view 3 3 vd 0 nl) false false 0, fB c9 wc, fB cs vd, ⟨45, [.d (.sc (.int .i64 k)), .d (.sc (.int .i64 j)), .d (.sc (.string nm)), .d (.sc (.string to)), .d (.slc 1 d), .d (.slc 1 ps)], false, 0, true⟩, ⟨5, pc, true, w, true⟩] (.d (.sc (.int .i64 e))) (.d (.sc (.int .i64 e))) [dB n (.view 3 2 wc 0 n9) false false 0, dB n (.view 3 3 vd 0 nl) false false 0, fB c9 wc, fB cs vd, ⟨45, [.d (.sc (.int .i64 k)), .d (.sc (.int .i64 j)), .d (.sc (.string nm)), .d (.sc (.string to)), .d (.slc 1 d), .d (.slc 1 ps)], false, 0, true⟩, ⟨5, pc, true, w, true⟩] [dB n (.view 3 2 wc 0 n9) false false 0, dB n (.view 3 3 wd 0 n9) false false 0, fB c9 wc, fB c9 wd, ⟨45, [.d (.sc (.int .i64 k)), .d (.sc (.int .i64 j)), .d (.sc (.string nm)), .d (.sc (.string to)), .d (.slc 1 d), .d (.slc 1 ps)], false, 0, true⟩, ⟨5, pc, true, w, true⟩]]) (A := A) (tabY_ok _ _) hH hB2 follows_mixed hA hX (by kernel_rfl) (by kernel_rfl) ?_) <;> cbv
          clear hB2
          repeat first
            | (simp only [f1, f2, f2b, f2c, f2d, f2e, f2f, f3, f4, f7, f8, z1]; cbv)
            | refine And.intro (by
                 subst hA hX hW hFsQ hFsL hFsRu
                 clear hH hB
                 first
                   | exact trivial
                   | exact rfl
                   | (simp [A0]; done)
                   | (intro q; exact q)
                   | (intro q; simpa [A0] using q)
                   | (intro _; trivial)
                   | (show Region.lexB _ _ = true; kernel_rfl)
                   | (show turnsB _ = true; kernel_rfl)
                   | assumption
                   | exact okqM) ?_
            | ((with_reducible refine callB hX hB ?_); cbv; fail_if_success show False)
            | (refine pickL hX (t := true) (by rfl) rfl ?_; cbv)
            | (refine pickL hX (t := false) (by rfl) rfl ?_; cbv)
          replace i0 : 0 ≤ i := i0
          replace hlt : i < (xs.length : Int) := hlt
          replace hlt40 : i < 40 := hlt40
          have wi : IntKind.wrap .i64 (i + 1) = i + 1 := wrap_i64 (by unfold r64; omega)
          subst hR
          refine ⟨(i + 1, some (wc, wd, n9, c9), L9), ⟨⟨by show 0 ≤ i + 1; omega, by show i + 1 ≤ 40; omega⟩, ?_, ⟨hc9, hn9⟩⟩, by show 40 - (i + 1).toNat < 40 - i.toNat; omega, ?_⟩
          · show okD (i + 1).toNat _
            rw [show (i + 1).toNat = i.toNat + 1 by omega]
            exact hok9
          · have hpsC : ∀ κ (M : List FileM), pullL κ (cellsF M) = cellsF M := fun κ M => by rw [pullL_eq]; exact pull_rows κ _
            subst hA
            refine told_keep [0, 1, 2, 3] rfl ?_ ?_
            · simp only [keepSt, List.map_cons, List.map_nil, pullBox, List.getD_cons_zero, List.getD_cons_succ, twT, pullL, pullD]
              try simp only [hc9, hpsC]
              try rfl
            · simp [toldP, getS, A0, wi, pullD]
              try (repeat' (first | rfl | apply And.intro))
        have r4 : A.cmp .eql k 4 = false := by subst hA; exact decide_eq_false hk4
        cbv at r4

        by_cases hk7 : k = 7
        · have r7 : A.cmp .eql k 7 = true := by subst hA; exact decide_eq_true hk7
          cbv at r7
          with_reducible refine goL (T := fun _ => tabY [] []) (H := fun _ => [kn_runs GFsRu, kn_same GFsQ]) (tabY_ok _ _) hH follows_mixed hA hX ?_
          cbv
          repeat first
            | (simp only [f1, f2, f2b, f2c, f2d, f2e, f2f, f3, f4, f7, f8, s3, s4, r1, r2, r4, r7]; cbv)
            | refine And.intro (by
                 subst hA hX hW hFsQ hFsL hFsRu
                 clear hH hB
                 first
                   | exact trivial
                   | exact rfl
                   | (simp [A0]; done)
                   | (intro q; exact q)
                   | (intro q; simpa [A0] using q)
                   | (intro _; trivial)
                   | (show Region.lexB _ _ = true; kernel_rfl)
                   | (show turnsB _ = true; kernel_rfl)
                   | assumption
                   | exact okqM
                   | (show _ ∧ _; simp only [A0]; exact ⟨by omega, by omega⟩)) ?_
            | ((with_reducible refine callB hX hB ?_); cbv; fail_if_success show False)
            | (refine pickL hX (t := true) (by rfl) rfl ?_; cbv)
            | (refine pickL hX (t := false) (by rfl) rfl ?_; cbv)
          obtain ⟨pm, hpm0⟩ : ∃ z, z = A.pl 0 (A.lenN d) := ⟨_, rfl⟩
          obtain ⟨w, hw0⟩ : ∃ z, z = A.nxt 0 := ⟨_, rfl⟩
          obtain ⟨pc, hpc0⟩ : ∃ z, z = A.app [] (A.rows d) := ⟨_, rfl⟩
          have hpm : pm = d.length := by subst hA; rw [hpm0]; exact Nat.zero_add _
          have hpc : pc = rowsD d := by subst hA; rw [hpc0]; rfl
          cbv at hpm0 hw0 hpc0
          obtain ⟨js, hjs, hj1, hj2⟩ := hps0
          replace hjs : ps = intsX js := hjs
          obtain ⟨L9, hL9⟩ : ∃ z, z = crF js L := ⟨_, rfl⟩
          have hy : (Dk.mk n L false false 0).crash js = ⟨n, L9, false, false, 0⟩ := by rw [hL9]; rfl
          have hok9 : okD (i.toNat + 1) ⟨n, L9, false, false, 0⟩ := by
            have h1 := hD.crash js
            rw [hy] at h1
            exact h1.mono (Nat.le_succ _)
          refine pauseL hX (s' := [(0, .d (.slc 6 xs)), (3, .ref 0 0 0), (5, .ref 1 0 0), (7, .d (.sc (.int .i64 i))), (8, .ref 4 0 0)]) (st' := [dB n (.view 3 2 vc 0 nl) false false 0, dB n (.view 3 3 vd 0 nl) false false 0, fB cs vc, fB cs vd, ⟨45, [.d (.sc (.int .i64 k)), .d (.sc (.int .i64 j)), .d (.sc (.string nm)), .d (.sc (.string to)), .d (.slc 1 d), .d (.slc 1 ps)], false, 0, true⟩, ⟨5, pc, true, w, true⟩]) (told_eq8 (by rw [hpc0, hw0]) (by simp [toldP, getS])) ?_
          with_reducible refine goL (T := fun _ => tabY [] []) (H := fun _ => [kn_runs GFsRu, kn_same GFsQ]) (tabY_ok _ _) hH follows_mixed hA hX ?_
          cbv
          repeat first
            | (simp only [f1, f2, f2b, f2c, f2d, f2e, f2f, f3, f4, f7, f8]; cbv)
            | refine And.intro (by
                 subst hA hX hW hFsQ hFsL hFsRu
                 clear hH hB
                 first
                   | exact trivial
                   | exact rfl
                   | (simp [A0]; done)
                   | (intro q; exact q)
                   | (intro q; simpa [A0] using q)
                   | (intro _; trivial)
                   | (show Region.lexB _ _ = true; kernel_rfl)
                   | (show turnsB _ = true; kernel_rfl)
                   | assumption
                   | exact okqM) ?_
            | ((with_reducible refine callB hX hB ?_); cbv; fail_if_success show False)
            | (refine pickL hX (t := true) (by rfl) rfl ?_; cbv)
            | (refine pickL hX (t := false) (by rfl) rfl ?_; cbv)
          rw [hjs]
          refine callL hX (crash1 (e := 0) js 0 2 L rfl rfl (by decide) hcs hnl hD9 hj1 hj2 hy fun v5 n5 c5 hc5 hn5 => ?_)
          rw [← hjs]
          cbv
          refine pauseL hX (s' := [(0, .d (.slc 6 xs)), (3, .ref 0 0 0), (5, .ref 1 0 0), (7, .d (.sc (.int .i64 i))), (8, .ref 4 0 0)]) (st' := [dB n (.view 3 2 v5 0 n5) false false 0, dB n (.view 3 3 vd 0 nl) false false 0, fB c5 v5, fB cs vd, ⟨45, [.d (.sc (.int .i64 k)), .d (.sc (.int .i64 j)), .d (.sc (.string nm)), .d (.sc (.string to)), .d (.slc 1 d), .d (.slc 1 ps)], false, 0, true⟩, ⟨5, pc, true, w, true⟩]) (told_less (by simp [toldP, getS])) ?_
          with_reducible refine goL (T := fun _ => tabY [] []) (H := fun _ => [kn_runs GFsRu, kn_same GFsQ]) (tabY_ok _ _) hH follows_mixed hA hX ?_
          cbv
          repeat first
            | (simp only [f1, f2, f2b, f2c, f2d, f2e, f2f, f3, f4, f7, f8]; cbv)
            | refine And.intro (by
                 subst hA hX hW hFsQ hFsL hFsRu
                 clear hH hB
                 first
                   | exact trivial
                   | exact rfl
                   | (simp [A0]; done)
                   | (intro q; exact q)
                   | (intro q; simpa [A0] using q)
                   | (intro _; trivial)
                   | (show Region.lexB _ _ = true; kernel_rfl)
                   | (show turnsB _ = true; kernel_rfl)
                   | assumption
                   | exact okqM) ?_
            | ((with_reducible refine callB hX hB ?_); cbv; fail_if_success show False)
            | (refine pickL hX (t := true) (by rfl) rfl ?_; cbv)
            | (refine pickL hX (t := false) (by rfl) rfl ?_; cbv)
          rw [hjs]
          refine callL hX (crash1 (e := 0) js 1 3 L rfl rfl (by decide) hcs hnl hD9 hj1 hj2 hy fun v6 n6 c6 hc6 hn6 => ?_)
          rw [← hjs]
          cbv
          obtain rfl : c6 = c5 := hc6.trans hc5.symm
          obtain rfl : n6 = n5 := hn6.trans hn5.symm
          repeat first
            | (simp only [f1, f2, f2b, f2c, f2d, f2e, f2f, f3, f4, f7, f8]; cbv)
            | refine And.intro (by
                 subst hA hX hW hFsQ hFsL hFsRu
                 clear hH hB
                 first
                   | exact trivial
                   | exact rfl
                   | (simp [A0]; done)
                   | (intro q; exact q)
                   | (intro q; simpa [A0] using q)
                   | (intro _; trivial)
                   | (show Region.lexB _ _ = true; kernel_rfl)
                   | (show turnsB _ = true; kernel_rfl)
                   | assumption
                   | exact okqM) ?_
            | ((with_reducible refine callB hX hB ?_); cbv; fail_if_success show False)
            | (refine pickL hX (t := true) (by rfl) rfl ?_; cbv)
            | (refine pickL hX (t := false) (by rfl) rfl ?_; cbv)
          replace i0 : 0 ≤ i := i0
          replace hlt : i < (xs.length : Int) := hlt
          replace hlt40 : i < 40 := hlt40
          have wi : IntKind.wrap .i64 (i + 1) = i + 1 := wrap_i64 (by unfold r64; omega)
          subst hR
          refine ⟨(i + 1, some (v5, v6, n6, c6), L9), ⟨⟨by show 0 ≤ i + 1; omega, by show i + 1 ≤ 40; omega⟩, ?_, ⟨hc5, hn5⟩⟩, by show 40 - (i + 1).toNat < 40 - i.toNat; omega, ?_⟩
          · show okD (i + 1).toNat _
            rw [show (i + 1).toNat = i.toNat + 1 by omega]
            exact hok9
          · have hpsC : ∀ κ (M : List FileM), pullL κ (cellsF M) = cellsF M := fun κ M => by rw [pullL_eq]; exact pull_rows κ _
            subst hA
            refine told_keep [0, 1, 2, 3] rfl ?_ ?_
            · simp only [keepSt, List.map_cons, List.map_nil, pullBox, List.getD_cons_zero, List.getD_cons_succ, twT, pullL, pullD]
              try simp only [hc5, hpsC]
              try rfl
            · simp [toldP, getS, A0, wi, pullD]
              try (repeat' (first | rfl | apply And.intro))
        have r7 : A.cmp .eql k 7 = false := by subst hA; exact decide_eq_false hk7
        cbv at r7

        with_reducible refine goL (T := fun _ => tabY [] []) (H := fun _ => [kn_runs GFsRu, kn_same GFsQ]) (tabY_ok _ _) hH follows_mixed hA hX ?_
        cbv
        repeat first
          | (simp only [f1, f2, f2b, f2c, f2d, f2e, f2f, f3, f4, f7, f8, s3, s4, r1, r2, r4, r7]; cbv)
          | refine And.intro (by
               subst hA hX hW hFsQ hFsL hFsRu
               clear hH hB
               first
                 | exact trivial
                 | exact rfl
                 | (simp [A0]; done)
                 | (intro q; exact q)
                 | (intro q; simpa [A0] using q)
                 | (intro _; trivial)
                 | (show Region.lexB _ _ = true; kernel_rfl)
                 | (show turnsB _ = true; kernel_rfl)
                 | assumption
                 | exact okqM
                 | (show _ ∧ _; simp only [A0]; exact ⟨by omega, by omega⟩)) ?_
          | ((with_reducible refine callB hX hB ?_); cbv; fail_if_success show False)
          | (refine pickL hX (t := true) (by rfl) rfl ?_; cbv)
          | (refine pickL hX (t := false) (by rfl) rfl ?_; cbv)
        replace i0 : 0 ≤ i := i0
        replace hlt : i < (xs.length : Int) := hlt
        replace hlt40 : i < 40 := hlt40
        have wi : IntKind.wrap .i64 (i + 1) = i + 1 := wrap_i64 (by unfold r64; omega)
        subst hR
        refine ⟨(i + 1, some (vc, vd, nl, cs), L), ⟨⟨by show 0 ≤ i + 1; omega, by show i + 1 ≤ 40; omega⟩, ?_, ⟨hcs, hnl⟩⟩, by show 40 - (i + 1).toNat < 40 - i.toNat; omega, ?_⟩
        · show okD (i + 1).toNat _
          rw [show (i + 1).toNat = i.toNat + 1 by omega]
          exact hD.mono (Nat.le_succ _)
        · have hpsC : ∀ κ (M : List FileM), pullL κ (cellsF M) = cellsF M := fun κ M => by rw [pullL_eq]; exact pull_rows κ _
          subst hA
          refine told_keep [0, 1, 2, 3] rfl ?_ ?_
          · simp only [keepSt, List.map_cons, List.map_nil, pullBox, List.getD_cons_zero, List.getD_cons_succ, twT, pullL, pullD]
            try simp only [hcs, hpsC]
            try rfl
          · simp [toldP, getS, A0, wi, pullD]
            try (repeat' (first | rfl | apply And.intro))
      · have hbad : (A.cmp .gtr (A.len d) 300 || A.cmp .gtr (A.len ps) 30) = true := by
          subst hA
          show (decide ((300 : Int) < (d.length : Int)) || decide ((30 : Int) < (ps.length : Int))) = true
          simp only [Bool.or_eq_true, decide_eq_true_eq]
          omega
        obtain ⟨t1, s3⟩ : ∃ t, A.cmp .gtr (A.len d) 300 = t := ⟨_, rfl⟩
        obtain ⟨t2, s4⟩ : ∃ t, A.cmp .gtr (A.len ps) 30 = t := ⟨_, rfl⟩
        rw [s3, s4] at hbad
        cbv at s3 s4
        cases t1 <;> cases t2
        · exact absurd hbad (by decide)
        all_goals
          with_reducible refine goL (T := fun _ => tabY [] []) (H := fun _ => [kn_runs GFsRu, kn_same GFsQ]) (tabY_ok _ _) hH follows_mixed hA hX ?_
          cbv
          repeat first
            | (simp only [f1, f2, f2b, f2c, f2d, f2e, f2f, f3, f4, f7, f8, s3, s4]; cbv)
            | refine And.intro (by
                 subst hA hX hW hFsQ hFsL hFsRu
                 clear hH hB
                 first
                   | exact trivial
                   | exact rfl
                   | (simp [A0]; done)
                   | (intro q; exact q)
                   | (intro q; simpa [A0] using q)
                   | (intro _; trivial)
                   | (show Region.lexB _ _ = true; kernel_rfl)
                   | (show turnsB _ = true; kernel_rfl)
                   | assumption
                   | exact okqM) ?_
            | ((with_reducible refine callB hX hB ?_); cbv; fail_if_success show False)
            | (refine pickL hX (t := true) (by rfl) rfl ?_; cbv)
            | (refine pickL hX (t := false) (by rfl) rfl ?_; cbv)
          replace i0 : 0 ≤ i := i0
          replace hlt : i < (xs.length : Int) := hlt
          replace hlt40 : i < 40 := hlt40
          have wi : IntKind.wrap .i64 (i + 1) = i + 1 := wrap_i64 (by unfold r64; omega)
          subst hR
          refine ⟨(i + 1, some (vc, vd, nl, cs), L), ⟨⟨by show 0 ≤ i + 1; omega, by show i + 1 ≤ 40; omega⟩, ?_, ⟨hcs, hnl⟩⟩, by show 40 - (i + 1).toNat < 40 - i.toNat; omega, ?_⟩
          · show okD (i + 1).toNat _
            rw [show (i + 1).toNat = i.toNat + 1 by omega]
            exact hD.mono (Nat.le_succ _)
          · have hpsC : ∀ κ (M : List FileM), pullL κ (cellsF M) = cellsF M := fun κ M => by rw [pullL_eq]; exact pull_rows κ _
            subst hA
            refine told_keep [0, 1, 2, 3] rfl ?_ ?_
            · simp only [keepSt, List.map_cons, List.map_nil, pullBox, List.getD_cons_zero, List.getD_cons_succ, twT, pullL, pullD]
              try simp only [hcs, hpsC]
              try rfl
            · simp [toldP, getS, A0, wi, pullD]
              try (repeat' (first | rfl | apply And.intro))
    · have t0 : A.cond (A.cmp .lss i (A.len xs)) (A.cmp .lss i 40) false = false := by
        subst hA
        show (bif decide (i < (xs.length : Int)) then decide (i < 40) else false) = false
        by_cases h1 : i < (xs.length : Int)
        · rw [decide_eq_true h1, decide_eq_false (fun h2 => hin ⟨h1, h2⟩)]
          rfl
        · rw [decide_eq_false h1]
          rfl
      cbv at t0
      simp only [t0]
      cbv
      repeat first
        | (simp only [f1, f2, f2b, f2c, f2d, f2e, f2f, f3, f4, f7, f8]; cbv)
        | refine And.intro (by
             subst hA hX hW hFsQ hFsL hFsRu
             clear hH hB
             first
               | exact trivial
               | exact rfl
               | (simp [A0]; done)
               | (intro q; exact q)
               | (intro q; simpa [A0] using q)
               | (intro _; trivial)
               | (show Region.lexB _ _ = true; kernel_rfl)
               | (show turnsB _ = true; kernel_rfl)
               | assumption
               | exact okqM) ?_
        | ((with_reducible refine callB hX hB ?_); cbv; fail_if_success show False)
        | (refine pickL hX (t := true) (by rfl) rfl ?_; cbv)
        | (refine pickL hX (t := false) (by rfl) rfl ?_; cbv)
      obtain ⟨ns, hns⟩ : ∃ z, z = namesF L := ⟨_, rfl⟩
      have hnsl : ns.length = L.length := by rw [hns]; simp [namesF, strR1]
      refine pauseL hX (s' := [(3, .ref 0 0 0), (5, .ref 1 0 0)]) (told_less (by simp [toldP, getS])) ?_
      with_reducible refine goL (T := fun _ => tabY [] []) (H := fun _ => [kn_runs GFsRu, kn_same GFsQ]) (tabY_ok _ _) hH follows_mixed hA hX ?_
      cbv
      repeat first
        | (simp only [f1, f2, f2b, f2c, f2d, f2e, f2f, f3, f4, f7, f8]; cbv)
        | refine And.intro (by
             subst hA hX hW hFsQ hFsL hFsRu
             clear hH hB
             first
               | exact trivial
               | exact rfl
               | (simp [A0]; done)
               | (intro q; exact q)
               | (intro q; simpa [A0] using q)
               | (intro _; trivial)
               | (show Region.lexB _ _ = true; kernel_rfl)
               | (show turnsB _ = true; kernel_rfl)
               | assumption
               | exact okqM) ?_
        | ((with_reducible refine callB hX hB ?_); cbv; fail_if_success show False)
        | (refine pickL hX (t := true) (by rfl) rfl ?_; cbv)
        | (refine pickL hX (t := false) (by rfl) rfl ?_; cbv)
      refine callL hX (namesA1 1 3 L rfl rfl (by decide) hcs hnl (hD9.len) ?_)
      rw [← hns]
      cbv
      refine pauseL hX (s' := [(3, .ref 0 0 0), (5, .ref 1 0 0), (14, .d (.slc 1 ns))]) (told_less (by simp [toldP, getS])) ?_
      with_reducible refine goL (T := fun _ => tabY [] []) (H := fun _ => [kn_runs GFsRu, kn_same GFsQ]) (tabY_ok _ _) hH follows_mixed hA hX ?_
      cbv
      repeat first
        | (simp only [f1, f2, f2b, f2c, f2d, f2e, f2f, f3, f4, f7, f8]; cbv)
        | refine And.intro (by
             subst hA hX hW hFsQ hFsL hFsRu
             clear hH hB
             first
               | exact trivial
               | exact rfl
               | (simp [A0]; done)
               | (intro q; exact q)
               | (intro q; simpa [A0] using q)
               | (intro _; trivial)
               | (show Region.lexB _ _ = true; kernel_rfl)
               | (show turnsB _ = true; kernel_rfl)
               | assumption
               | exact okqM) ?_
        | ((with_reducible refine callB hX hB ?_); cbv; fail_if_success show False)
        | (refine pickL hX (t := true) (by rfl) rfl ?_; cbv)
        | (refine pickL hX (t := false) (by rfl) rfl ?_; cbv)
      refine callL hX (namesA1 0 2 L rfl rfl (by decide) hcs hnl (hD9.len) ?_)
      rw [← hns]
      cbv
      refine callL hX (FnV.use (v_sameS (L.map FileM.name) ns hns (by rw [List.length_map]; first | decide | (have := hD9.len; exact Nat.le_trans this (by decide)))) rfl ?_)
      cbv
      repeat first
        | (simp only [f1, f2, f2b, f2c, f2d, f2e, f2f, f3, f4, f7, f8]; cbv)
        | refine And.intro (by
             subst hA hX hW hFsQ hFsL hFsRu
             clear hH hB
             first
               | exact trivial
               | exact rfl
               | (simp [A0]; done)
               | (intro q; exact q)
               | (intro q; simpa [A0] using q)
               | (intro _; trivial)
               | (show Region.lexB _ _ = true; kernel_rfl)
               | (show turnsB _ = true; kernel_rfl)
               | assumption
               | exact okqM) ?_
        | ((with_reducible refine callB hX hB ?_); cbv; fail_if_success show False)
        | (refine pickL hX (t := true) (by rfl) rfl ?_; cbv)
        | (refine pickL hX (t := false) (by rfl) rfl ?_; cbv)
      have hB3 : SoundB Try.prog [kb_read GFsL] := by subst hFsL; exact orB_ok okb_read noB_ok
      have hF3 := isF_of hcs hnl (hD9.okL (by decide))
      have hO3 := okD_of hcs hD9
      have hnb : ns.length ≤ 900 := by rw [hnsl]; exact hD9.len
      refine loopL (T := fun _ => tabY [] [9, 13, 19, 25, 28, 31, 32, 33, 34, 39, 40]) (H := fun _ => [kn_runs GFsRu, kn_same GFsQ]) (tabY_ok _ _) hH follows_mixed hA hX (fun j : Int => 0 ≤ j ∧ j ≤ (ns.length : Int)) (fun j => [(3, .ref 0 0 0), (5, .ref 1 0 0), (14, .d (.slc 1 ns)), (15, .d (.sc (.int .i64 j)))]) (fun _ => [dB n (.view 3 2 vc 0 nl) false false 0, dB n (.view 3 3 vd 0 nl) false false 0, fB cs vc, fB cs vd]) (fun j => ((ns.length : Int) - j).toNat) 0 ?_ ?_ ?_
      · exact ⟨Int.le_refl 0, Int.natCast_nonneg _⟩
      · exact told_less (by simp [toldP, getS])
      rintro R5 j5 hR5 ⟨j50, j51⟩
      replace j50 : 0 ≤ j5 := j50
      replace j51 : j5 ≤ (ns.length : Int) := j51
      cbv
      by_cases hj5 : j5 < (ns.length : Int)
      · have t1 : A.cmp .lss j5 (A.len ns) = true := by subst hA; exact decide_eq_true hj5
        cbv at t1
        simp only [t1]
        cbv
        replace hnsl : ns.length = L.length := hnsl
        replace hj5 : j5 < (ns.length : Int) := hj5
        replace j50 : 0 ≤ j5 := j50
        have hlt5 : j5.toNat < (L.map FileM.name).length := by rw [List.length_map, ← hnsl]; omega
        obtain ⟨nx, hnx⟩ : ∃ nx, ns.getD j5.toNat [] = [.sc (.string nx)] := ⟨(L.map FileM.name)[j5.toNat], by
          rw [hns, namesF, strR1, List.getD_eq_getElem?_getD]
          have hlt6 : j5.toNat < L.length := by omega
          simp [hlt6]⟩
        have e9 : A.gs (A.lift (A.row ns j5)) 0 = nx := by subst hA; simp only [A0, hnx]; rfl
        have hbk : A.inb j5 (A.len ns) := by subst hA; exact ⟨j50, hj5⟩
        cbv at e9
        cbv at hbk
        obtain ⟨z, hz⟩ : ∃ z, z = GFsL.rd cs nx := ⟨_, rfl⟩
        have hzB : isB z := by
          have hr0 : rowF cs = L := by rw [hcs]; exact rowF_cells L
          rw [hz]
          subst hFsL
          show isB (readsX cs nx)
          unfold readsX Dk.reads
          rw [hr0]
          split
          · unfold readF
            split
            · rename_i f hf
              exact (hD9.fs f (List.mem_of_getElem? hf)).1
            · exact ⟨[], rfl, by decide⟩
          · exact ⟨[], rfl, by decide⟩
        have q1 : GFsQ.same z z = true := by subst hFsQ; exact (sameB_eq _ _).2 rfl
        cbv at hz
        cbv at q1
        have hhas : A.has (A.lift (A.row ns j5)) 0 1 [.d (.sc (.string (A.gs (A.lift (A.row ns j5)) 0)))] := by subst hA; simp only [A0, hnx]; exact ⟨rfl, Nat.le_refl _, rfl⟩
        cbv at hhas
        with_reducible refine goL (T := fun _ => tabY [170, 179] []) (H := fun _ => [kn_runs GFsRu, kn_same GFsQ]) (tabY_ok _ _) hH follows_mixed hA hX ?_
        cbv
        refine And.intro hbk (And.intro hhas ?_)
        simp only [e9]
        refine callB hX hB3 ?_
        cbv
        simp only [← hz]
        repeat (refine And.intro (by first | exact hF3 | exact hO3 | (subst hFsL; exact hF3) | (subst hFsL; exact hO3) | (subst hFsL; exact rfl)) ?_)
        with_reducible refine goL (T := fun _ => tabY [170, 179] []) (H := fun _ => [kn_runs GFsRu, kn_same GFsQ]) (tabY_ok _ _) hH follows_mixed hA hX ?_
        cbv
        refine And.intro hbk (And.intro hhas ?_)
        simp only [e9]
        refine callB hX hB3 ?_
        cbv
        simp only [← hz]
        repeat' first
          | (simp only [q1, f3]; cbv)
          | (refine And.intro ?_ ?_)
        all_goals subst hA
        all_goals first
          | (subst hFsL; exact hF3)
          | (subst hFsL; exact hO3)
          | (subst hFsL; exact rfl)
          | (subst hFsQ; exact hzB)
          | (rw [hR5]
             replace j50 : 0 ≤ j5 := j50
             replace hj5 : j5 < (ns.length : Int) := hj5
             replace hnb : ns.length ≤ 900 := hnb
             have wj : IntKind.wrap .i64 (j5 + 1) = j5 + 1 := wrap_i64 (by unfold r64; omega)
             refine ⟨j5 + 1, ⟨by show 0 ≤ j5 + 1; omega, by show j5 + 1 ≤ (ns.length : Int); omega⟩, by show ((ns.length : Int) - (j5 + 1)).toNat < ((ns.length : Int) - j5).toNat; omega, told_less ?_⟩
             simp [toldP, getS, A0, wj])
          | fail
      · have t1 : A.cmp .lss j5 (A.len ns) = false := by subst hA; exact decide_eq_false hj5
        cbv at t1
        simp only [t1]
        cbv
        repeat first
          | (simp only [f1, f2, f2b, f2c, f2d, f2e, f2f, f3, f4, f7, f8]; cbv)
          | refine And.intro (by
               subst hA hX hW hFsQ hFsL hFsRu
               clear hH hB
               first
                 | exact trivial
                 | exact rfl
                 | (simp [A0]; done)
                 | (intro q; exact q)
                 | (intro q; simpa [A0] using q)
                 | (intro _; trivial)
                 | (show Region.lexB _ _ = true; kernel_rfl)
                 | (show turnsB _ = true; kernel_rfl)
                 | assumption
                 | exact okqM) ?_
          | ((with_reducible refine callB hX hB ?_); cbv; fail_if_success show False)
          | (refine pickL hX (t := true) (by rfl) rfl ?_; cbv)
          | (refine pickL hX (t := false) (by rfl) rfl ?_; cbv)
        all_goals subst hA hX hW hFsQ hFsL hFsRu
        exact ret_v rfl rfl
end Go.Proofs.Ytmjmbfcfnhnpmaa
