/- Any calls, power failing in any of them, room ending: each answers, and the files are, what the document says: the law's walk. No condition. -/
import Derived.Test.YtmjmbfcfnhnpmaaPl17
import Derived.Test.YtmjmbfcfnhnpmaaPl18
import Derived.Test.YtmjmbfcfnhnpmaaPA
namespace Go.Proofs.Ytmjmbfcfnhnpmaa
open Go.RowKit
set_option linter.all false
set_option maxHeartbeats 8000000
theorem told_eqP {k : Nat} {s s' : SL} {st st' : Store} (e : st = st') (h : toldP id s s') : Told k s st s' st' := by subst e; exact told_less h
/-- A new disk of the document, beside another. -/
theorem rnewK (q : Int) (hq : 0 ≤ q ∧ q ≤ 1048576) {st : Store} {K : DV → Store → Prop} (hk : K (.tup [.ref st.length 0 0, .d (.sc (.int .i64 0))]) (st ++ [rB q nilV false false (-1)])) : FnD Try.prog 26 [.d (.sc (.int .i64 q))] st K := by
  refine FnD.at (w_rnew q hq) [] (by simp [closedL, closedD]) (by simp) rfl ?_
  rintro r0 stc ⟨rfl, rfl⟩ _
  have e : mergeL st [] ((rS q none false false (-1)).map (Box.ren (place [] st.length))) = st ++ [rB q nilV false false (-1)] := by
    rw [show rS q none false false (-1) = [rB q nilV false false (-1)] from rfl, List.map_cons, List.map_nil, rN_ren, mergeL]
    congr 1
    apply List.ext_getElem?
    intro i
    simp [List.idxOf?]
  rw [e]
  simpa [renD, renL, place] using hk
/-- One call, from two disks without rows. -/
theorem callK0 {q lr : Int} {o a : Bool} {l : Int} {L : List FileM} {k j : Int} {nm to : ByteArray} {d xs : List (List PD)} {js : List Int} {K : DV → Store → Prop} (hL : L = []) (hlr : lr = rlf a l) (hD : okP 900 ⟨q, L, o, a, l⟩) (hnm : nm.size ≤ 1048576) (hto : to.size ≤ 1048576) (hd : isB d) (hjx : xs = intsX js) (hj1 : js.length ≤ 4194304) (hj2 : ∀ p ∈ js, r64 p)
    (k0 : ∀ q9 L9 o9 a9 l9 lr9, (Dk.mk q L o a l).call ⟨k, j, nm, to, d, xs⟩ js = ⟨q9, L9, o9, a9, l9⟩ → lr9 = rlf a9 l9 → L9 = [] → K (.d (.sc (.bool true))) [dB q9 nilV o9 a9 l9, rB q9 nilV o9 false lr9])
    (k1 : ∀ q9 L9 o9 a9 l9 lr9 v u n c9, (Dk.mk q L o a l).call ⟨k, j, nm, to, d, xs⟩ js = ⟨q9, L9, o9, a9, l9⟩ → lr9 = rlf a9 l9 → c9 = cellsF L9 ∧ n = L9.length → K (.d (.sc (.bool true))) [dB q9 (.view 3 2 v 0 n) o9 a9 l9, rB q9 (.view 3 3 u 0 n) o9 false lr9, fB c9 v, gB c9 u]) :
    FnD Try.prog 27 [.ref 0 0 0, .ref 1 0 0, .agg [.d (.sc (.int .i64 k)), .d (.sc (.int .i64 j)), .d (.sc (.string nm)), .d (.sc (.string to)), .d (.slc 1 d), .d (.slc 1 xs)]] [dB q nilV o a l, rB q nilV o false lr] K := by
  refine (w_call0 q lr o a l L k j nm to d xs js hL hlr hD.ok hD.srt hnm hto hd hjx hj1 hj2).mono ?_
  rintro r st' ⟨rfl, y, hy, rfl⟩
  obtain ⟨q9, L9, o9, a9, l9, e⟩ : ∃ q9 L9 o9 a9 l9, (Dk.mk q L o a l).call ⟨k, j, nm, to, d, xs⟩ js = ⟨q9, L9, o9, a9, l9⟩ := ⟨_, _, _, _, _, rfl⟩
  rw [e] at hy ⊢
  rcases y with _ | ⟨v, u, n, c9⟩
  · exact k0 q9 L9 o9 a9 l9 _ e rfl hy
  · exact k1 q9 L9 o9 a9 l9 _ v u n c9 e rfl hy
/-- One call, from two disks with rows. -/
theorem callK1 {q lr : Int} {o a : Bool} {l : Int} {L : List FileM} {v u n : Nat} {cs : List DV} {k j : Int} {nm to : ByteArray} {d xs : List (List PD)} {js : List Int} {K : DV → Store → Prop} (hL : cs = cellsF L ∧ n = L.length) (hlr : lr = rlf a l) (hD : okP 900 ⟨q, L, o, a, l⟩) (hnm : nm.size ≤ 1048576) (hto : to.size ≤ 1048576) (hd : isB d) (hjx : xs = intsX js) (hj1 : js.length ≤ 4194304) (hj2 : ∀ p ∈ js, r64 p)
    (k0 : ∀ q9 L9 o9 a9 l9 lr9, (Dk.mk q L o a l).call ⟨k, j, nm, to, d, xs⟩ js = ⟨q9, L9, o9, a9, l9⟩ → lr9 = rlf a9 l9 → L9 = [] → K (.d (.sc (.bool true))) [dB q9 nilV o9 a9 l9, rB q9 nilV o9 false lr9])
    (k1 : ∀ q9 L9 o9 a9 l9 lr9 v u n c9, (Dk.mk q L o a l).call ⟨k, j, nm, to, d, xs⟩ js = ⟨q9, L9, o9, a9, l9⟩ → lr9 = rlf a9 l9 → c9 = cellsF L9 ∧ n = L9.length → K (.d (.sc (.bool true))) [dB q9 (.view 3 2 v 0 n) o9 a9 l9, rB q9 (.view 3 3 u 0 n) o9 false lr9, fB c9 v, gB c9 u]) :
    FnD Try.prog 27 [.ref 0 0 0, .ref 1 0 0, .agg [.d (.sc (.int .i64 k)), .d (.sc (.int .i64 j)), .d (.sc (.string nm)), .d (.sc (.string to)), .d (.slc 1 d), .d (.slc 1 xs)]] [dB q (.view 3 2 v 0 n) o a l, rB q (.view 3 3 u 0 n) o false lr, fB cs v, gB cs u] K := by
  refine (w_call1 q lr o a l L v u n cs k j nm to d xs js hL hlr hD.ok hD.srt hnm hto hd hjx hj1 hj2).mono ?_
  rintro r st' ⟨rfl, y, hy, rfl⟩
  obtain ⟨q9, L9, o9, a9, l9, e⟩ : ∃ q9 L9 o9 a9 l9, (Dk.mk q L o a l).call ⟨k, j, nm, to, d, xs⟩ js = ⟨q9, L9, o9, a9, l9⟩ := ⟨_, _, _, _, _, rfl⟩
  rw [e] at hy ⊢
  rcases y with _ | ⟨v, u, n, c9⟩
  · exact k0 q9 L9 o9 a9 l9 _ e rfl hy
  · exact k1 q9 L9 o9 a9 l9 _ v u n c9 e rfl hy
theorem alikeK0 {q lr : Int} {o a : Bool} {l : Int} {L : List FileM} {K : DV → Store → Prop} (hL : L = []) (hlr : lr = rlf a l) (hD : okP 900 ⟨q, L, o, a, l⟩) (hk : K (.d (.sc (.bool true))) [dB q nilV o a l, rB q nilV o false lr]) : FnD Try.prog 28 [.ref 0 0 0, .ref 1 0 0] [dB q nilV o a l, rB q nilV o false lr] K := by
  refine (w_alike0 q lr o a l L hL hlr hD.ok hD.srt hD.nm).mono ?_
  rintro r st' ⟨rfl, rfl⟩
  exact hk
theorem alikeK1 {q lr : Int} {o a : Bool} {l : Int} {L : List FileM} {v u n : Nat} {cs : List DV} {K : DV → Store → Prop} (hL : cs = cellsF L ∧ n = L.length) (hlr : lr = rlf a l) (hD : okP 900 ⟨q, L, o, a, l⟩) (hk : K (.d (.sc (.bool true))) [dB q (.view 3 2 v 0 n) o a l, rB q (.view 3 3 u 0 n) o false lr, fB cs v, gB cs u]) : FnD Try.prog 28 [.ref 0 0 0, .ref 1 0 0] [dB q (.view 3 2 v 0 n) o a l, rB q (.view 3 3 u 0 n) o false lr, fB cs v, gB cs u] K := by
  refine (w_alike1 q lr o a l L v u n cs hL hlr hD.ok hD.srt hD.nm).mono ?_
  rintro r st' ⟨rfl, rfl⟩
  exact hk
theorem okP.mono {k m : Nat} {D : Dk} (h : okP k D) (hk : k ≤ m) : okP m D := ⟨h.ok.mono hk, h.srt, h.nm⟩
set_option maxRecDepth 100000 in
theorem v_plays (q0 : Int) (xs : List (List PD)) (hp0 : isAsks xs) (hq0 : r64 q0) : FnV Try.prog 9 [.d (.sc (.int .i64 q0)), .d (.slc 6 xs)] (boolD true) := by
  obtain ⟨al, hxs, hall, hal⟩ := hp0
  have hxl : xs.length = al.length := by rw [hxs]; simp [asksX]
  have hrow : ∀ i : Int, 0 ≤ i → i < (xs.length : Int) → ∃ a : AskM, xs.getD i.toNat [] = a.row ∧ okAsk a := by
    intro i h0 h1
    have h2 : i.toNat < al.length := by omega
    refine ⟨al[i.toNat], ?_, hall _ (List.getElem_mem h2)⟩
    subst hxs
    simp [asksX, List.getD_eq_getElem?_getD, h2]
  obtain ⟨GFsRu, hFsRu⟩ : ∃ F, F = FsRu0 := ⟨_, rfl⟩
  have hH : SoundK Try.prog [kn_runs GFsRu] := by subst hFsRu; exact orK_ok ok_runs noK_ok
  have hB : SoundB Try.prog [] := by subst hFsRu; exact noB_ok
  refine FnD_cbv (T := fun _ => tabY [46, 47, 54, 55, 64] [1, 2, 3, 8, 9, 11]) (H := fun _ => [kn_runs GFsRu]) (tabY_ok _ _) hH follows_mixed Try.func9 rfl Try.ntmps9 (by simp) fun A X W hA hX hW => ?_
  cbv
  have f1 : A.cmp .neq 0 0 = false := by subst hA; rfl
  cbv at f1
  have f1b : A.cmp .neq 1 1 = false := by subst hA; rfl
  cbv at f1b
  have f2 : A.cond false true false = false := by subst hA; rfl
  cbv at f2
  have f2b : A.cond false true true = true := by subst hA; rfl
  cbv at f2b
  have f3 : A.not true = false := by subst hA; rfl
  cbv at f3
  have f4 : A.not false = true := by subst hA; rfl
  cbv at f4
  have f5 : A.beq true true = true := by subst hA; rfl
  cbv at f5
  have f6 : A.beq false false = true := by subst hA; rfl
  cbv at f6
  have f7 : A.cond true false false = false := by subst hA; rfl
  cbv at f7
  have f8 : A.cond true true false = true := by subst hA; rfl
  cbv at f8
  have f9 : A.cond false false false = false := by subst hA; rfl
  cbv at f9
  have f10 : A.cond true false true = false := by subst hA; rfl
  cbv at f10
  have f11 : A.cond true true true = true := by subst hA; rfl
  cbv at f11
  have f12 : A.cmp .lss 0 60 = true := by subst hA; rfl
  cbv at f12
  by_cases hqr : 0 ≤ q0 ∧ q0 ≤ 1048576
  · with_reducible refine goL (T := fun _ => tabY [46, 47, 54, 55, 64] []) (H := fun _ => [kn_runs GFsRu]) (tabY_ok _ _) hH follows_mixed hA hX ?_
    cbv
    repeat first
      | (simp only [f1, f1b, f2, f2b, f3, f4, f5, f6, f7, f8, f9, f10, f11, f12]; cbv)
      | refine And.intro (by
           subst hA hX hW hFsRu
           clear hH hB
           first
             | exact trivial
             | exact rfl
             | (simp [A0]; done)
             | (intro q; exact q)
             | (intro q; simpa [A0] using q)
             | (intro _; trivial)
             | (show Region.lexB _ _ = true; kernel_rfl)
             | (show turnsB _ = true; kernel_rfl)
             | assumption) ?_
      | ((with_reducible refine callB hX hB ?_); cbv; fail_if_success show False)
    refine callL hX (FnD.mono (w_new q0 hqr) ?_)
    rintro r st' ⟨rfl, rfl⟩
    cbv
    repeat first
      | (simp only [f1, f1b, f2, f2b, f3, f4, f5, f6, f7, f8, f9, f10, f11, f12]; cbv)
      | refine And.intro (by
           subst hA hX hW hFsRu
           clear hH hB
           first
             | exact trivial
             | exact rfl
             | (simp [A0]; done)
             | (intro q; exact q)
             | (intro q; simpa [A0] using q)
             | (intro _; trivial)
             | (show Region.lexB _ _ = true; kernel_rfl)
             | (show turnsB _ = true; kernel_rfl)
             | assumption) ?_
      | ((with_reducible refine callB hX hB ?_); cbv; fail_if_success show False)
    with_reducible refine goL (T := fun _ => tabY [46, 47, 54, 55, 64] []) (H := fun _ => [kn_runs GFsRu]) (tabY_ok _ _) hH follows_mixed hA hX ?_
    cbv
    repeat first
      | (simp only [f1, f1b, f2, f2b, f3, f4, f5, f6, f7, f8, f9, f10, f11, f12]; cbv)
      | refine And.intro (by
           subst hA hX hW hFsRu
           clear hH hB
           first
             | exact trivial
             | exact rfl
             | (simp [A0]; done)
             | (intro q; exact q)
             | (intro q; simpa [A0] using q)
             | (intro _; trivial)
             | (show Region.lexB _ _ = true; kernel_rfl)
             | (show turnsB _ = true; kernel_rfl)
             | assumption) ?_
      | ((with_reducible refine callB hX hB ?_); cbv; fail_if_success show False)
    refine callL hX (rnewK q0 hqr ?_)
    cbv
    repeat first
      | (simp only [f1, f1b, f2, f2b, f3, f4, f5, f6, f7, f8, f9, f10, f11, f12]; cbv)
      | refine And.intro (by
           subst hA hX hW hFsRu
           clear hH hB
           first
             | exact trivial
             | exact rfl
             | (simp [A0]; done)
             | (intro q; exact q)
             | (intro q; simpa [A0] using q)
             | (intro _; trivial)
             | (show Region.lexB _ _ = true; kernel_rfl)
             | (show turnsB _ = true; kernel_rfl)
             | assumption) ?_
      | ((with_reducible refine callB hX hB ?_); cbv; fail_if_success show False)
    with_reducible refine goL (T := fun _ => tabY [46, 47, 54, 55, 64] []) (H := fun _ => [kn_runs GFsRu]) (tabY_ok _ _) hH follows_mixed hA hX ?_
    cbv
    repeat first
      | (simp only [f1, f1b, f2, f2b, f3, f4, f5, f6, f7, f8, f9, f10, f11, f12]; cbv)
      | refine And.intro (by
           subst hA hX hW hFsRu
           clear hH hB
           first
             | exact trivial
             | exact rfl
             | (simp [A0]; done)
             | (intro q; exact q)
             | (intro q; simpa [A0] using q)
             | (intro _; trivial)
             | (show Region.lexB _ _ = true; kernel_rfl)
             | (show turnsB _ = true; kernel_rfl)
             | assumption) ?_
      | ((with_reducible refine callB hX hB ?_); cbv; fail_if_success show False)
    refine loopL (T := fun _ => tabY [46, 47, 54, 55, 64] [1, 2, 3, 8, 9, 11]) (H := fun _ => [kn_runs GFsRu]) (tabY_ok _ _) hH follows_mixed hA hX (fun x : Int × Dk × Option (Nat × Nat × Nat × List DV) => (0 ≤ x.1 ∧ x.1 ≤ 60) ∧ okP x.1.toNat x.2.1 ∧ clI x.2.1 x.2.2) (fun x => [(1, .d (.slc 6 xs)), (5, .ref 0 0 0), (7, .ref 1 0 0), (9, .d (.sc (.int .i64 x.1)))]) (fun x => clT x.2.1 x.2.2) (fun x => 60 - x.1.toNat) (0, ⟨q0, [], false, false, 0⟩, none) ?_ ?_ ?_
    · exact ⟨⟨Int.le_refl 0, (by decide : (0 : Int) ≤ 60)⟩, okP.new hqr, rfl⟩
    · exact told_eqP rfl (by simp [toldP, getS])
    rintro R ⟨i, ⟨q, L, o, a, l⟩, y⟩ hR ⟨⟨i0, i1⟩, hD, hL⟩
    replace i0 : 0 ≤ i := i0
    replace i1 : i ≤ 60 := i1
    replace hD : okP i.toNat ⟨q, L, o, a, l⟩ := hD
    have hD9 : okP 900 ⟨q, L, o, a, l⟩ := hD.mono (by omega)
    obtain ⟨lr, hlr⟩ : ∃ z, z = rlf a l := ⟨_, rfl⟩
    by_cases hin : i < (xs.length : Int) ∧ i < 60
    · obtain ⟨hlt, hlt60⟩ := hin
      have t1 : A.cmp .lss i (A.len xs) = true := by subst hA; exact decide_eq_true hlt
      have t2 : A.cmp .lss i 60 = true := by subst hA; exact decide_eq_true hlt60
      cbv at t1 t2
      obtain ⟨a0, hp0, hok⟩ := hrow i i0 hlt
      obtain ⟨k, j, nm, to, d, ps⟩ := a0
      obtain ⟨hk, hj, hnm, hto, hd, hps0⟩ := hok
      obtain ⟨js, hjs, hj1, hj2⟩ := id hps0
      replace hd : isB d := hd
      replace hjs : ps = intsX js := hjs
      have e0 : A.gi (A.lift (A.row xs i)) 0 = k := by subst hA; simp only [A0, hp0]; rfl
      have e1 : A.gi (A.lift (A.row xs i)) (A.pl 0 1) = j := by subst hA; simp only [A0, hp0]; rfl
      have e2 : A.gs (A.lift (A.row xs i)) (A.pl 0 2) = nm := by subst hA; simp only [A0, hp0]; rfl
      have e3 : A.gs (A.lift (A.row xs i)) (A.pl 0 3) = to := by subst hA; simp only [A0, hp0]; rfl
      have e4 : A.gl (A.lift (A.row xs i)) (A.pl 0 4) = d := by subst hA; simp only [A0, hp0]; rfl
      have e5 : A.gl (A.lift (A.row xs i)) (A.pl 0 5) = ps := by subst hA; simp only [A0, hp0]; rfl
      have e6 : A.gl (A.lift (A.cdrop (A.row xs i) 4)) 0 = d := by subst hA; simp only [A0, hp0]; rfl
      have e7 : A.gl (A.lift (A.cdrop (A.row xs i) 5)) 0 = ps := by subst hA; simp only [A0, hp0]; rfl
      cbv at e0 e1 e2 e3 e4 e5 e6 e7
      rcases y with _ | ⟨v, u, n, cs⟩
      · replace hL : L = [] := hL
        show wpC _ _ _ _ _ _ _ _ [dB q nilV o a l, rB q nilV o false (rlf a l)]
        rw [← hlr]
        cbv
        repeat first
          | (simp only [f1, f1b, f2, f2b, f3, f4, f5, f6, f7, f8, f9, f10, f11, f12, t1, t2, e0, e1, e2, e3, e4, e5]; cbv)
          | refine And.intro (by
               subst hA hX hW hFsRu
               clear hH hB
               first
                 | exact trivial
                 | exact rfl
                 | (simp [A0]; done)
                 | (intro q; exact q)
                 | (intro q; simpa [A0] using q)
                 | (intro _; trivial)
                 | (show Region.lexB _ _ = true; kernel_rfl)
                 | (show turnsB _ = true; kernel_rfl)
                 | assumption
                 | exact ⟨i0, hlt⟩
                 | (intro _; exact ⟨i0, hlt⟩)
                 | (simp only [A0, hp0]; exact ⟨rfl, Nat.le_refl _, rfl⟩)
                 | (simp only [A0, hp0]; exact ⟨rfl, (by show (0 : Nat) + 1 ≤ 2; decide), rfl⟩)
                 | (intro _; simp only [A0, hp0]; exact ⟨rfl, (by show (0 : Nat) + 1 ≤ 1; decide), rfl⟩)) ?_
          | ((with_reducible refine callB hX hB ?_); cbv; fail_if_success show False)
        refine pauseL hX (s' := [(1, .d (.slc 6 xs)), (5, .ref 0 0 0), (7, .ref 1 0 0), (9, .d (.sc (.int .i64 i)))]) (st' := [dB q nilV o a l, rB q nilV o false lr]) (told_less (by simp [toldP, getS])) ?_
        by_cases hsz : d.length ≤ 300 ∧ ps.length ≤ 30
        · obtain ⟨hz1, hz2⟩ := hsz
          have s3 : A.cmp .gtr (A.len d) 300 = false := by subst hA; simp only [A0, decide_eq_false_iff_not]; show ¬ (300 : Int) < (d.length : Int); omega
          have s4 : A.cmp .gtr (A.len ps) 30 = false := by subst hA; simp only [A0, decide_eq_false_iff_not]; show ¬ (30 : Int) < (ps.length : Int); omega
          cbv at s3 s4
          with_reducible refine goL (T := fun _ => tabY [46, 47, 54, 55, 64] []) (H := fun _ => [kn_runs GFsRu]) (tabY_ok _ _) hH follows_mixed hA hX ?_
          cbv
          repeat first
            | (simp only [f1, f1b, f2, f2b, f3, f4, f5, f6, f7, f8, f9, f10, f11, f12, e0, e1, e2, e3, e4, e5, e6, e7, s3, s4]; cbv)
            | refine And.intro (by
                 subst hA hX hW hFsRu
                 clear hH hB
                 first
                   | exact trivial
                   | exact rfl
                   | (simp [A0]; done)
                   | (intro q; exact q)
                   | (intro q; simpa [A0] using q)
                   | (intro _; trivial)
                   | (show Region.lexB _ _ = true; kernel_rfl)
                   | (show turnsB _ = true; kernel_rfl)
                   | assumption
                   | exact ⟨i0, hlt⟩
                   | (intro _; exact ⟨i0, hlt⟩)
                   | (simp only [A0, hp0]; exact ⟨rfl, Nat.le_refl _, rfl⟩)
                   | (simp only [A0, hp0]; exact ⟨rfl, (by show (0 : Nat) + 1 ≤ 2; decide), rfl⟩)
                   | (intro _; simp only [A0, hp0]; exact ⟨rfl, (by show (0 : Nat) + 1 ≤ 1; decide), rfl⟩)) ?_
            | ((with_reducible refine callB hX hB ?_); cbv; fail_if_success show False)
          refine pauseL hX (s' := [(1, .d (.slc 6 xs)), (5, .ref 0 0 0), (7, .ref 1 0 0), (9, .d (.sc (.int .i64 i)))]) (st' := [dB q nilV o a l, rB q nilV o false lr]) (told_less (by simp [toldP, getS])) ?_
          with_reducible refine goL (T := fun _ => tabY [46, 47, 54, 55, 64] []) (H := fun _ => [kn_runs GFsRu]) (tabY_ok _ _) hH follows_mixed hA hX ?_
          cbv
          repeat first
            | (simp only [f1, f1b, f2, f2b, f3, f4, f5, f6, f7, f8, f9, f10, f11, f12, e0, e1, e2, e3, e4, e5]; cbv)
            | refine And.intro (by
                 subst hA hX hW hFsRu
                 clear hH hB
                 first
                   | exact trivial
                   | exact rfl
                   | (simp [A0]; done)
                   | (intro q; exact q)
                   | (intro q; simpa [A0] using q)
                   | (intro _; trivial)
                   | (show Region.lexB _ _ = true; kernel_rfl)
                   | (show turnsB _ = true; kernel_rfl)
                   | assumption
                   | exact ⟨i0, hlt⟩
                   | (intro _; exact ⟨i0, hlt⟩)
                   | (simp only [A0, hp0]; exact ⟨rfl, Nat.le_refl _, rfl⟩)
                   | (simp only [A0, hp0]; exact ⟨rfl, (by show (0 : Nat) + 1 ≤ 2; decide), rfl⟩)
                   | (intro _; simp only [A0, hp0]; exact ⟨rfl, (by show (0 : Nat) + 1 ≤ 1; decide), rfl⟩)
                   | exact hrw) ?_
            | ((with_reducible refine callB hX hB ?_); cbv; fail_if_success show False)
          refine callL hX (callK0 hL hlr hD9 hnm hto hd hjs hj1 hj2 (fun q9 L9 o9 a9 l9 lr9 hy9 hlr9 hL9 => ?_) (fun q9 L9 o9 a9 l9 lr9 v9 u9 n9 c9 hy9 hlr9 hL9 => ?_))
          · have hok9 : okP (i.toNat + 1) ⟨q9, L9, o9, a9, l9⟩ := by
              have h1 := hD.call (a := ⟨k, j, nm, to, d, ps⟩) ⟨hk, hj, hnm, hto, hd, hps0⟩ js
              rw [hy9] at h1
              exact h1
            cbv
            repeat first
              | (simp only [f1, f1b, f2, f2b, f3, f4, f5, f6, f7, f8, f9, f10, f11, f12]; cbv)
              | refine And.intro (by
                   subst hA hX hW hFsRu
                   clear hH hB
                   first
                     | exact trivial
                     | exact rfl
                     | (simp [A0]; done)
                     | (intro q; exact q)
                     | (intro q; simpa [A0] using q)
                     | (intro _; trivial)
                     | (show Region.lexB _ _ = true; kernel_rfl)
                     | (show turnsB _ = true; kernel_rfl)
                     | assumption) ?_
              | ((with_reducible refine callB hX hB ?_); cbv; fail_if_success show False)
            refine callL hX (alikeK0 hL9 hlr9 (hok9.mono (by omega)) ?_)
            cbv
            repeat first
              | (simp only [f1, f1b, f2, f2b, f3, f4, f5, f6, f7, f8, f9, f10, f11, f12]; cbv)
              | refine And.intro (by
                   subst hA hX hW hFsRu
                   clear hH hB
                   first
                     | exact trivial
                     | exact rfl
                     | (simp [A0]; done)
                     | (intro q; exact q)
                     | (intro q; simpa [A0] using q)
                     | (intro _; trivial)
                     | (show Region.lexB _ _ = true; kernel_rfl)
                     | (show turnsB _ = true; kernel_rfl)
                     | assumption) ?_
              | ((with_reducible refine callB hX hB ?_); cbv; fail_if_success show False)
            replace i0 : 0 ≤ i := i0
            replace hlt : i < (xs.length : Int) := hlt
            replace hlt60 : i < 60 := hlt60
            have wi : IntKind.wrap .i64 (i + 1) = i + 1 := wrap_i64 (by unfold r64; omega)
            subst hR
            subst hA
            refine ⟨(i + 1, ⟨q9, L9, o9, a9, l9⟩, none), ⟨⟨by show 0 ≤ i + 1; omega, by show i + 1 ≤ 60; omega⟩, ?_, hL9⟩, by show 60 - (i + 1).toNat < 60 - i.toNat; omega, told_eqP ?_ ?_⟩
            · show okP (i + 1).toNat _
              rw [show (i + 1).toNat = i.toNat + 1 by omega]
              exact hok9
            · simp [clT, hlr9]
            · simp [toldP, getS, A0, wi]
          · have hok9 : okP (i.toNat + 1) ⟨q9, L9, o9, a9, l9⟩ := by
              have h1 := hD.call (a := ⟨k, j, nm, to, d, ps⟩) ⟨hk, hj, hnm, hto, hd, hps0⟩ js
              rw [hy9] at h1
              exact h1
            cbv
            repeat first
              | (simp only [f1, f1b, f2, f2b, f3, f4, f5, f6, f7, f8, f9, f10, f11, f12]; cbv)
              | refine And.intro (by
                   subst hA hX hW hFsRu
                   clear hH hB
                   first
                     | exact trivial
                     | exact rfl
                     | (simp [A0]; done)
                     | (intro q; exact q)
                     | (intro q; simpa [A0] using q)
                     | (intro _; trivial)
                     | (show Region.lexB _ _ = true; kernel_rfl)
                     | (show turnsB _ = true; kernel_rfl)
                     | assumption) ?_
              | ((with_reducible refine callB hX hB ?_); cbv; fail_if_success show False)
            refine callL hX (alikeK1 hL9 hlr9 (hok9.mono (by omega)) ?_)
            cbv
            repeat first
              | (simp only [f1, f1b, f2, f2b, f3, f4, f5, f6, f7, f8, f9, f10, f11, f12]; cbv)
              | refine And.intro (by
                   subst hA hX hW hFsRu
                   clear hH hB
                   first
                     | exact trivial
                     | exact rfl
                     | (simp [A0]; done)
                     | (intro q; exact q)
                     | (intro q; simpa [A0] using q)
                     | (intro _; trivial)
                     | (show Region.lexB _ _ = true; kernel_rfl)
                     | (show turnsB _ = true; kernel_rfl)
                     | assumption) ?_
              | ((with_reducible refine callB hX hB ?_); cbv; fail_if_success show False)
            replace i0 : 0 ≤ i := i0
            replace hlt : i < (xs.length : Int) := hlt
            replace hlt60 : i < 60 := hlt60
            have wi : IntKind.wrap .i64 (i + 1) = i + 1 := wrap_i64 (by unfold r64; omega)
            subst hR
            subst hA
            refine ⟨(i + 1, ⟨q9, L9, o9, a9, l9⟩, some (v9, u9, n9, c9)), ⟨⟨by show 0 ≤ i + 1; omega, by show i + 1 ≤ 60; omega⟩, ?_, hL9⟩, by show 60 - (i + 1).toNat < 60 - i.toNat; omega, told_eqP ?_ ?_⟩
            · show okP (i + 1).toNat _
              rw [show (i + 1).toNat = i.toNat + 1 by omega]
              exact hok9
            · simp [clT, hlr9]
            · simp [toldP, getS, A0, wi]
        · have hbad : (A.cmp .gtr (A.len d) 300 || A.cmp .gtr (A.len ps) 30) = true := by
            subst hA
            show (decide ((300 : Int) < (d.length : Int)) || decide ((30 : Int) < (ps.length : Int))) = true
            simp only [Bool.or_eq_true, decide_eq_true_eq]
            omega
          obtain ⟨t1, s3⟩ : ∃ t, A.cmp .gtr (A.len d) 300 = t := ⟨_, rfl⟩
          obtain ⟨t2, s4⟩ : ∃ t, A.cmp .gtr (A.len ps) 30 = t := ⟨_, rfl⟩
          rw [s3, s4] at hbad
          cbv at s3 s4
          cases t1 <;> cases t2
          · exact absurd hbad (by decide)
          all_goals
            with_reducible refine goL (T := fun _ => tabY [46, 47, 54, 55, 64] []) (H := fun _ => [kn_runs GFsRu]) (tabY_ok _ _) hH follows_mixed hA hX ?_
            cbv
            repeat first
              | (simp only [f1, f1b, f2, f2b, f3, f4, f5, f6, f7, f8, f9, f10, f11, f12, e0, e1, e2, e3, e4, e5, e6, e7, s3, s4]; cbv)
              | refine And.intro (by
                   subst hA hX hW hFsRu
                   clear hH hB
                   first
                     | exact trivial
                     | exact rfl
                     | (simp [A0]; done)
                     | (intro q; exact q)
                     | (intro q; simpa [A0] using q)
                     | (intro _; trivial)
                     | (show Region.lexB _ _ = true; kernel_rfl)
                     | (show turnsB _ = true; kernel_rfl)
                     | assumption
                     | exact ⟨i0, hlt⟩
                     | (intro _; exact ⟨i0, hlt⟩)
                     | (simp only [A0, hp0]; exact ⟨rfl, Nat.le_refl _, rfl⟩)
                     | (simp only [A0, hp0]; exact ⟨rfl, (by show (0 : Nat) + 1 ≤ 2; decide), rfl⟩)
                     | (intro _; simp only [A0, hp0]; exact ⟨rfl, (by show (0 : Nat) + 1 ≤ 1; decide), rfl⟩)) ?_
              | ((with_reducible refine callB hX hB ?_); cbv; fail_if_success show False)
            replace i0 : 0 ≤ i := i0
            replace hlt : i < (xs.length : Int) := hlt
            replace hlt60 : i < 60 := hlt60
            have wi : IntKind.wrap .i64 (i + 1) = i + 1 := wrap_i64 (by unfold r64; omega)
            subst hR
            subst hA
            refine ⟨(i + 1, ⟨q, L, o, a, l⟩, none), ⟨⟨by show 0 ≤ i + 1; omega, by show i + 1 ≤ 60; omega⟩, ?_, hL⟩, by show 60 - (i + 1).toNat < 60 - i.toNat; omega, told_eqP ?_ ?_⟩
            · show okP (i + 1).toNat _
              rw [show (i + 1).toNat = i.toNat + 1 by omega]
              exact hD.mono (Nat.le_succ _)
            · simp [clT, hlr]
            · simp [toldP, getS, A0, wi]
      · replace hL : cs = cellsF L ∧ n = L.length := hL
        show wpC _ _ _ _ _ _ _ _ [dB q (.view 3 2 v 0 n) o a l, rB q (.view 3 3 u 0 n) o false (rlf a l), fB cs v, gB cs u]
        rw [← hlr]
        cbv
        repeat first
          | (simp only [f1, f1b, f2, f2b, f3, f4, f5, f6, f7, f8, f9, f10, f11, f12, t1, t2, e0, e1, e2, e3, e4, e5]; cbv)
          | refine And.intro (by
               subst hA hX hW hFsRu
               clear hH hB
               first
                 | exact trivial
                 | exact rfl
                 | (simp [A0]; done)
                 | (intro q; exact q)
                 | (intro q; simpa [A0] using q)
                 | (intro _; trivial)
                 | (show Region.lexB _ _ = true; kernel_rfl)
                 | (show turnsB _ = true; kernel_rfl)
                 | assumption
                 | exact ⟨i0, hlt⟩
                 | (intro _; exact ⟨i0, hlt⟩)
                 | (simp only [A0, hp0]; exact ⟨rfl, Nat.le_refl _, rfl⟩)
                 | (simp only [A0, hp0]; exact ⟨rfl, (by show (0 : Nat) + 1 ≤ 2; decide), rfl⟩)
                 | (intro _; simp only [A0, hp0]; exact ⟨rfl, (by show (0 : Nat) + 1 ≤ 1; decide), rfl⟩)) ?_
          | ((with_reducible refine callB hX hB ?_); cbv; fail_if_success show False)
        refine pauseL hX (s' := [(1, .d (.slc 6 xs)), (5, .ref 0 0 0), (7, .ref 1 0 0), (9, .d (.sc (.int .i64 i)))]) (st' := [dB q (.view 3 2 v 0 n) o a l, rB q (.view 3 3 u 0 n) o false lr, fB cs v, gB cs u]) (told_less (by simp [toldP, getS])) ?_
        by_cases hsz : d.length ≤ 300 ∧ ps.length ≤ 30
        · obtain ⟨hz1, hz2⟩ := hsz
          have s3 : A.cmp .gtr (A.len d) 300 = false := by subst hA; simp only [A0, decide_eq_false_iff_not]; show ¬ (300 : Int) < (d.length : Int); omega
          have s4 : A.cmp .gtr (A.len ps) 30 = false := by subst hA; simp only [A0, decide_eq_false_iff_not]; show ¬ (30 : Int) < (ps.length : Int); omega
          cbv at s3 s4
          with_reducible refine goL (T := fun _ => tabY [46, 47, 54, 55, 64] []) (H := fun _ => [kn_runs GFsRu]) (tabY_ok _ _) hH follows_mixed hA hX ?_
          cbv
          repeat first
            | (simp only [f1, f1b, f2, f2b, f3, f4, f5, f6, f7, f8, f9, f10, f11, f12, e0, e1, e2, e3, e4, e5, e6, e7, s3, s4]; cbv)
            | refine And.intro (by
                 subst hA hX hW hFsRu
                 clear hH hB
                 first
                   | exact trivial
                   | exact rfl
                   | (simp [A0]; done)
                   | (intro q; exact q)
                   | (intro q; simpa [A0] using q)
                   | (intro _; trivial)
                   | (show Region.lexB _ _ = true; kernel_rfl)
                   | (show turnsB _ = true; kernel_rfl)
                   | assumption
                   | exact ⟨i0, hlt⟩
                   | (intro _; exact ⟨i0, hlt⟩)
                   | (simp only [A0, hp0]; exact ⟨rfl, Nat.le_refl _, rfl⟩)
                   | (simp only [A0, hp0]; exact ⟨rfl, (by show (0 : Nat) + 1 ≤ 2; decide), rfl⟩)
                   | (intro _; simp only [A0, hp0]; exact ⟨rfl, (by show (0 : Nat) + 1 ≤ 1; decide), rfl⟩)) ?_
            | ((with_reducible refine callB hX hB ?_); cbv; fail_if_success show False)
          refine pauseL hX (s' := [(1, .d (.slc 6 xs)), (5, .ref 0 0 0), (7, .ref 1 0 0), (9, .d (.sc (.int .i64 i)))]) (st' := [dB q (.view 3 2 v 0 n) o a l, rB q (.view 3 3 u 0 n) o false lr, fB cs v, gB cs u]) (told_less (by simp [toldP, getS])) ?_
          with_reducible refine goL (T := fun _ => tabY [46, 47, 54, 55, 64] []) (H := fun _ => [kn_runs GFsRu]) (tabY_ok _ _) hH follows_mixed hA hX ?_
          cbv
          repeat first
            | (simp only [f1, f1b, f2, f2b, f3, f4, f5, f6, f7, f8, f9, f10, f11, f12, e0, e1, e2, e3, e4, e5]; cbv)
            | refine And.intro (by
                 subst hA hX hW hFsRu
                 clear hH hB
                 first
                   | exact trivial
                   | exact rfl
                   | (simp [A0]; done)
                   | (intro q; exact q)
                   | (intro q; simpa [A0] using q)
                   | (intro _; trivial)
                   | (show Region.lexB _ _ = true; kernel_rfl)
                   | (show turnsB _ = true; kernel_rfl)
                   | assumption
                   | exact ⟨i0, hlt⟩
                   | (intro _; exact ⟨i0, hlt⟩)
                   | (simp only [A0, hp0]; exact ⟨rfl, Nat.le_refl _, rfl⟩)
                   | (simp only [A0, hp0]; exact ⟨rfl, (by show (0 : Nat) + 1 ≤ 2; decide), rfl⟩)
                   | (intro _; simp only [A0, hp0]; exact ⟨rfl, (by show (0 : Nat) + 1 ≤ 1; decide), rfl⟩)
                   | exact hrw) ?_
            | ((with_reducible refine callB hX hB ?_); cbv; fail_if_success show False)
          refine callL hX (callK1 hL hlr hD9 hnm hto hd hjs hj1 hj2 (fun q9 L9 o9 a9 l9 lr9 hy9 hlr9 hL9 => ?_) (fun q9 L9 o9 a9 l9 lr9 v9 u9 n9 c9 hy9 hlr9 hL9 => ?_))
          · have hok9 : okP (i.toNat + 1) ⟨q9, L9, o9, a9, l9⟩ := by
              have h1 := hD.call (a := ⟨k, j, nm, to, d, ps⟩) ⟨hk, hj, hnm, hto, hd, hps0⟩ js
              rw [hy9] at h1
              exact h1
            cbv
            repeat first
              | (simp only [f1, f1b, f2, f2b, f3, f4, f5, f6, f7, f8, f9, f10, f11, f12]; cbv)
              | refine And.intro (by
                   subst hA hX hW hFsRu
                   clear hH hB
                   first
                     | exact trivial
                     | exact rfl
                     | (simp [A0]; done)
                     | (intro q; exact q)
                     | (intro q; simpa [A0] using q)
                     | (intro _; trivial)
                     | (show Region.lexB _ _ = true; kernel_rfl)
                     | (show turnsB _ = true; kernel_rfl)
                     | assumption) ?_
              | ((with_reducible refine callB hX hB ?_); cbv; fail_if_success show False)
            refine callL hX (alikeK0 hL9 hlr9 (hok9.mono (by omega)) ?_)
            cbv
            repeat first
              | (simp only [f1, f1b, f2, f2b, f3, f4, f5, f6, f7, f8, f9, f10, f11, f12]; cbv)
              | refine And.intro (by
                   subst hA hX hW hFsRu
                   clear hH hB
                   first
                     | exact trivial
                     | exact rfl
                     | (simp [A0]; done)
                     | (intro q; exact q)
                     | (intro q; simpa [A0] using q)
                     | (intro _; trivial)
                     | (show Region.lexB _ _ = true; kernel_rfl)
                     | (show turnsB _ = true; kernel_rfl)
                     | assumption) ?_
              | ((with_reducible refine callB hX hB ?_); cbv; fail_if_success show False)
            replace i0 : 0 ≤ i := i0
            replace hlt : i < (xs.length : Int) := hlt
            replace hlt60 : i < 60 := hlt60
            have wi : IntKind.wrap .i64 (i + 1) = i + 1 := wrap_i64 (by unfold r64; omega)
            subst hR
            subst hA
            refine ⟨(i + 1, ⟨q9, L9, o9, a9, l9⟩, none), ⟨⟨by show 0 ≤ i + 1; omega, by show i + 1 ≤ 60; omega⟩, ?_, hL9⟩, by show 60 - (i + 1).toNat < 60 - i.toNat; omega, told_eqP ?_ ?_⟩
            · show okP (i + 1).toNat _
              rw [show (i + 1).toNat = i.toNat + 1 by omega]
              exact hok9
            · simp [clT, hlr9]
            · simp [toldP, getS, A0, wi]
          · have hok9 : okP (i.toNat + 1) ⟨q9, L9, o9, a9, l9⟩ := by
              have h1 := hD.call (a := ⟨k, j, nm, to, d, ps⟩) ⟨hk, hj, hnm, hto, hd, hps0⟩ js
              rw [hy9] at h1
              exact h1
            cbv
            repeat first
              | (simp only [f1, f1b, f2, f2b, f3, f4, f5, f6, f7, f8, f9, f10, f11, f12]; cbv)
              | refine And.intro (by
                   subst hA hX hW hFsRu
                   clear hH hB
                   first
                     | exact trivial
                     | exact rfl
                     | (simp [A0]; done)
                     | (intro q; exact q)
                     | (intro q; simpa [A0] using q)
                     | (intro _; trivial)
                     | (show Region.lexB _ _ = true; kernel_rfl)
                     | (show turnsB _ = true; kernel_rfl)
                     | assumption) ?_
              | ((with_reducible refine callB hX hB ?_); cbv; fail_if_success show False)
            refine callL hX (alikeK1 hL9 hlr9 (hok9.mono (by omega)) ?_)
            cbv
            repeat first
              | (simp only [f1, f1b, f2, f2b, f3, f4, f5, f6, f7, f8, f9, f10, f11, f12]; cbv)
              | refine And.intro (by
                   subst hA hX hW hFsRu
                   clear hH hB
                   first
                     | exact trivial
                     | exact rfl
                     | (simp [A0]; done)
                     | (intro q; exact q)
                     | (intro q; simpa [A0] using q)
                     | (intro _; trivial)
                     | (show Region.lexB _ _ = true; kernel_rfl)
                     | (show turnsB _ = true; kernel_rfl)
                     | assumption) ?_
              | ((with_reducible refine callB hX hB ?_); cbv; fail_if_success show False)
            replace i0 : 0 ≤ i := i0
            replace hlt : i < (xs.length : Int) := hlt
            replace hlt60 : i < 60 := hlt60
            have wi : IntKind.wrap .i64 (i + 1) = i + 1 := wrap_i64 (by unfold r64; omega)
            subst hR
            subst hA
            refine ⟨(i + 1, ⟨q9, L9, o9, a9, l9⟩, some (v9, u9, n9, c9)), ⟨⟨by show 0 ≤ i + 1; omega, by show i + 1 ≤ 60; omega⟩, ?_, hL9⟩, by show 60 - (i + 1).toNat < 60 - i.toNat; omega, told_eqP ?_ ?_⟩
            · show okP (i + 1).toNat _
              rw [show (i + 1).toNat = i.toNat + 1 by omega]
              exact hok9
            · simp [clT, hlr9]
            · simp [toldP, getS, A0, wi]
        · have hbad : (A.cmp .gtr (A.len d) 300 || A.cmp .gtr (A.len ps) 30) = true := by
            subst hA
            show (decide ((300 : Int) < (d.length : Int)) || decide ((30 : Int) < (ps.length : Int))) = true
            simp only [Bool.or_eq_true, decide_eq_true_eq]
            omega
          obtain ⟨t1, s3⟩ : ∃ t, A.cmp .gtr (A.len d) 300 = t := ⟨_, rfl⟩
          obtain ⟨t2, s4⟩ : ∃ t, A.cmp .gtr (A.len ps) 30 = t := ⟨_, rfl⟩
          rw [s3, s4] at hbad
          cbv at s3 s4
          cases t1 <;> cases t2
          · exact absurd hbad (by decide)
          all_goals
            with_reducible refine goL (T := fun _ => tabY [46, 47, 54, 55, 64] []) (H := fun _ => [kn_runs GFsRu]) (tabY_ok _ _) hH follows_mixed hA hX ?_
            cbv
            repeat first
              | (simp only [f1, f1b, f2, f2b, f3, f4, f5, f6, f7, f8, f9, f10, f11, f12, e0, e1, e2, e3, e4, e5, e6, e7, s3, s4]; cbv)
              | refine And.intro (by
                   subst hA hX hW hFsRu
                   clear hH hB
                   first
                     | exact trivial
                     | exact rfl
                     | (simp [A0]; done)
                     | (intro q; exact q)
                     | (intro q; simpa [A0] using q)
                     | (intro _; trivial)
                     | (show Region.lexB _ _ = true; kernel_rfl)
                     | (show turnsB _ = true; kernel_rfl)
                     | assumption
                     | exact ⟨i0, hlt⟩
                     | (intro _; exact ⟨i0, hlt⟩)
                     | (simp only [A0, hp0]; exact ⟨rfl, Nat.le_refl _, rfl⟩)
                     | (simp only [A0, hp0]; exact ⟨rfl, (by show (0 : Nat) + 1 ≤ 2; decide), rfl⟩)
                     | (intro _; simp only [A0, hp0]; exact ⟨rfl, (by show (0 : Nat) + 1 ≤ 1; decide), rfl⟩)) ?_
              | ((with_reducible refine callB hX hB ?_); cbv; fail_if_success show False)
            replace i0 : 0 ≤ i := i0
            replace hlt : i < (xs.length : Int) := hlt
            replace hlt60 : i < 60 := hlt60
            have wi : IntKind.wrap .i64 (i + 1) = i + 1 := wrap_i64 (by unfold r64; omega)
            subst hR
            subst hA
            refine ⟨(i + 1, ⟨q, L, o, a, l⟩, some (v, u, n, cs)), ⟨⟨by show 0 ≤ i + 1; omega, by show i + 1 ≤ 60; omega⟩, ?_, hL⟩, by show 60 - (i + 1).toNat < 60 - i.toNat; omega, told_eqP ?_ ?_⟩
            · show okP (i + 1).toNat _
              rw [show (i + 1).toNat = i.toNat + 1 by omega]
              exact hD.mono (Nat.le_succ _)
            · simp [clT, hlr]
            · simp [toldP, getS, A0, wi]
    · obtain ⟨b1, t1⟩ : ∃ t, A.cmp .lss i (A.len xs) = t := ⟨_, rfl⟩
      obtain ⟨b2, t2⟩ : ∃ t, A.cmp .lss i 60 = t := ⟨_, rfl⟩
      have hbad : (b1 && b2) = false := by
        rw [← t1, ← t2]
        subst hA
        show (decide (i < (xs.length : Int)) && decide (i < 60)) = false
        rw [Bool.and_eq_false_iff, decide_eq_false_iff_not, decide_eq_false_iff_not]
        exact Decidable.not_and_iff_or_not.1 hin
      cbv at t1 t2
      rcases y with _ | ⟨v, u, n, cs⟩ <;> cases b1 <;> cases b2 <;> first
        | exact absurd hbad (by decide)
        | (cbv
           repeat first
             | (simp only [f1, f1b, f2, f2b, f3, f4, f5, f6, f7, f8, f9, f10, f11, f12, t1, t2]; cbv)
             | refine And.intro (by
                  subst hA hX hW hFsRu
                  clear hH hB
                  first
                    | exact trivial
                    | exact rfl
                    | (simp [A0]; done)
                    | (intro q; exact q)
                    | (intro q; simpa [A0] using q)
                    | (intro _; trivial)
                    | (show Region.lexB _ _ = true; kernel_rfl)
                    | (show turnsB _ = true; kernel_rfl)
                    | assumption) ?_
             | ((with_reducible refine callB hX hB ?_); cbv; fail_if_success show False)
           with_reducible refine goL (T := fun _ => tabY [46, 47, 54, 55, 64] []) (H := fun _ => [kn_runs GFsRu]) (tabY_ok _ _) hH follows_mixed hA hX ?_
           cbv
           repeat first
             | (simp only [f1, f1b, f2, f2b, f3, f4, f5, f6, f7, f8, f9, f10, f11, f12]; cbv)
             | refine And.intro (by
                  subst hA hX hW hFsRu
                  clear hH hB
                  first
                    | exact trivial
                    | exact rfl
                    | (simp [A0]; done)
                    | (intro q; exact q)
                    | (intro q; simpa [A0] using q)
                    | (intro _; trivial)
                    | (show Region.lexB _ _ = true; kernel_rfl)
                    | (show turnsB _ = true; kernel_rfl)
                    | assumption) ?_
             | ((with_reducible refine callB hX hB ?_); cbv; fail_if_success show False)
           subst hA hX hW hFsRu
           exact ret_v rfl rfl)
  · have hqx : q0 < 0 ∨ 1048576 < q0 := by omega
    with_reducible refine goL (T := fun _ => tabY [46, 47, 54, 55, 64] []) (H := fun _ => [kn_runs GFsRu]) (tabY_ok _ _) hH follows_mixed hA hX ?_
    cbv
    repeat first
      | (simp only [f1, f1b, f2, f2b, f3, f4, f5, f6, f7, f8, f9, f10, f11, f12]; cbv)
      | refine And.intro (by
           subst hA hX hW hFsRu
           clear hH hB
           first
             | exact trivial
             | exact rfl
             | (simp [A0]; done)
             | (intro q; exact q)
             | (intro q; simpa [A0] using q)
             | (intro _; trivial)
             | (show Region.lexB _ _ = true; kernel_rfl)
             | (show turnsB _ = true; kernel_rfl)
             | assumption) ?_
      | ((with_reducible refine callB hX hB ?_); cbv; fail_if_success show False)
    refine callL hX (FnD.mono (w_newX q0 hqx) ?_)
    rintro r st' ⟨rfl, rfl⟩
    cbv
    repeat first
      | (simp only [f1, f1b, f2, f2b, f3, f4, f5, f6, f7, f8, f9, f10, f11, f12]; cbv)
      | refine And.intro (by
           subst hA hX hW hFsRu
           clear hH hB
           first
             | exact trivial
             | exact rfl
             | (simp [A0]; done)
             | (intro q; exact q)
             | (intro q; simpa [A0] using q)
             | (intro _; trivial)
             | (show Region.lexB _ _ = true; kernel_rfl)
             | (show turnsB _ = true; kernel_rfl)
             | assumption) ?_
      | ((with_reducible refine callB hX hB ?_); cbv; fail_if_success show False)
    with_reducible refine goL (T := fun _ => tabY [46, 47, 54, 55, 64] []) (H := fun _ => [kn_runs GFsRu]) (tabY_ok _ _) hH follows_mixed hA hX ?_
    cbv
    repeat first
      | (simp only [f1, f1b, f2, f2b, f3, f4, f5, f6, f7, f8, f9, f10, f11, f12]; cbv)
      | refine And.intro (by
           subst hA hX hW hFsRu
           clear hH hB
           first
             | exact trivial
             | exact rfl
             | (simp [A0]; done)
             | (intro q; exact q)
             | (intro q; simpa [A0] using q)
             | (intro _; trivial)
             | (show Region.lexB _ _ = true; kernel_rfl)
             | (show turnsB _ = true; kernel_rfl)
             | assumption) ?_
      | ((with_reducible refine callB hX hB ?_); cbv; fail_if_success show False)
    refine callL hX (FnD.mono (w_rnewX q0 hqx) ?_)
    rintro r st' ⟨rfl, rfl⟩
    cbv
    repeat first
      | (simp only [f1, f1b, f2, f2b, f3, f4, f5, f6, f7, f8, f9, f10, f11, f12]; cbv)
      | refine And.intro (by
           subst hA hX hW hFsRu
           clear hH hB
           first
             | exact trivial
             | exact rfl
             | (simp [A0]; done)
             | (intro q; exact q)
             | (intro q; simpa [A0] using q)
             | (intro _; trivial)
             | (show Region.lexB _ _ = true; kernel_rfl)
             | (show turnsB _ = true; kernel_rfl)
             | assumption) ?_
      | ((with_reducible refine callB hX hB ?_); cbv; fail_if_success show False)
    with_reducible refine goL (T := fun _ => tabY [46, 47, 54, 55, 64] []) (H := fun _ => [kn_runs GFsRu]) (tabY_ok _ _) hH follows_mixed hA hX ?_
    cbv
    repeat first
      | (simp only [f1, f1b, f2, f2b, f3, f4, f5, f6, f7, f8, f9, f10, f11, f12]; cbv)
      | refine And.intro (by
           subst hA hX hW hFsRu
           clear hH hB
           first
             | exact trivial
             | exact rfl
             | (simp [A0]; done)
             | (intro q; exact q)
             | (intro q; simpa [A0] using q)
             | (intro _; trivial)
             | (show Region.lexB _ _ = true; kernel_rfl)
             | (show turnsB _ = true; kernel_rfl)
             | assumption) ?_
      | ((with_reducible refine callB hX hB ?_); cbv; fail_if_success show False)
    obtain ⟨b1, t1⟩ : ∃ t, A.cmp .lss 0 (A.len xs) = t := ⟨_, rfl⟩
    cbv at t1
    refine unrollL (T := fun _ => tabY [46, 47, 54, 55, 64] [1, 2, 3, 8, 9, 11]) (H := fun _ => [kn_runs GFsRu]) (tabY_ok _ _) hH follows_mixed hA hX 1 fun R3 hR3 => ?_
    refine hR3 _ _ _ ?_
    cbv
    cases b1 <;> first
      | (repeat first
           | (simp only [f1, f1b, f2, f2b, f3, f4, f5, f6, f7, f8, f9, f10, f11, f12, t1]; cbv)
           | refine And.intro (by
                subst hA hX hW hFsRu
                clear hH hB
                first
                  | exact trivial
                  | exact rfl
                  | (simp [A0]; done)
                  | (intro q; exact q)
                  | (intro q; simpa [A0] using q)
                  | (intro _; trivial)
                  | (show Region.lexB _ _ = true; kernel_rfl)
                  | (show turnsB _ = true; kernel_rfl)
                  | assumption) ?_
           | ((with_reducible refine callB hX hB ?_); cbv; fail_if_success show False)
         with_reducible refine goL (T := fun _ => tabY [46, 47, 54, 55, 64] []) (H := fun _ => [kn_runs GFsRu]) (tabY_ok _ _) hH follows_mixed hA hX ?_
         cbv
         repeat first
           | (simp only [f1, f1b, f2, f2b, f3, f4, f5, f6, f7, f8, f9, f10, f11, f12]; cbv)
           | refine And.intro (by
                subst hA hX hW hFsRu
                clear hH hB
                first
                  | exact trivial
                  | exact rfl
                  | (simp [A0]; done)
                  | (intro q; exact q)
                  | (intro q; simpa [A0] using q)
                  | (intro _; trivial)
                  | (show Region.lexB _ _ = true; kernel_rfl)
                  | (show turnsB _ = true; kernel_rfl)
                  | assumption) ?_
           | ((with_reducible refine callB hX hB ?_); cbv; fail_if_success show False)
         subst hA hX hW hFsRu
         exact ret_v rfl rfl)
      | (trace_state; fail)
end Go.Proofs.Ytmjmbfcfnhnpmaa
