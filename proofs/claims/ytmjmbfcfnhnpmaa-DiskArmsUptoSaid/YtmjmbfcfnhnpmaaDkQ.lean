/- Chapter 8's room: the law's walk. No condition. -/
import Derived.Test.YtmjmbfcfnhnpmaaDkP
import Derived.Test.YtmjmbfcfnhnpmaaAm44
namespace Go.Proofs.Ytmjmbfcfnhnpmaa
open Go.RowKit
set_option linter.all false
set_option maxHeartbeats 4000000

theorem app_yes {q : Int} {L : List FileM} {nm : ByteArray} {p : List (List PD)} (hm : mayF nm = true) (h : totF L + p.length ≤ q) : (Dk.mk q L false false 0).app nm p = (0, ⟨q, addF L nm p, false, false, 0⟩) := by
  unfold Dk.app
  simp only
  rw [if_neg (by decide), if_neg (by rw [hm]; decide), if_neg (by omega)]
  rfl
theorem app_no {q : Int} {L : List FileM} {nm : ByteArray} {p : List (List PD)} (hm : mayF nm = true) (h : ¬ totF L + p.length ≤ q) : (Dk.mk q L false false 0).app nm p = (7, ⟨q, L, false, false, 0⟩) := by
  unfold Dk.app
  simp only
  rw [if_neg (by decide), if_neg (by rw [hm]; decide), if_pos (by omega)]
theorem addF_ne (L : List FileM) (nm : ByteArray) (p : List (List PD)) : addF L nm p ≠ [] ∨ L ≠ [] := by
  cases L with
  | nil => left; simp [addF, findF]
  | cons _ _ => right; simp
theorem rem_yes {q : Int} {L : List FileM} {nm : ByteArray} (h : (findF nm L 0).2 = true) : ∃ (L' : List FileM) (d : List (List PD)), (Dk.mk q L false false 0).rem nm = (0, ⟨q, L', false, false, 0⟩) ∧ totF L' = totF L - d.length ∧ (Dk.mk 0 L false false 0).reads nm = d := by
  obtain ⟨f, h1, h2⟩ := find_some h
  refine ⟨outFl L (findF nm L 0).1.toNat, f.data, ?_, outF_tot _ _ f h1, ?_⟩
  · have hk : (Dk.mk q L false false 0).know nm = 0 := by
      unfold Dk.know knE findX
      simp only [rowF_cells, h]
      rfl
    unfold Dk.rem
    rw [if_pos hk]
    rfl
  · unfold Dk.reads
    simp only
    rw [if_pos h]
    unfold readF
    rw [h1]
theorem rem_no {q : Int} {L : List FileM} {nm : ByteArray} (h : (findF nm L 0).2 = false) : (Dk.mk q L false false 0).rem nm = (8, ⟨q, L, false, false, 0⟩) ∧ (Dk.mk 0 L false false 0).reads nm = [] := by
  have hk : (Dk.mk q L false false 0).know nm = 8 := by
    unfold Dk.know knE findX
    simp only [rowF_cells, h]
    rfl
  refine ⟨?_, ?_⟩
  · unfold Dk.rem
    rw [hk, if_neg (by decide)]
  · unfold Dk.reads
    simp only
    rw [if_neg (by rw [h]; decide)]
theorem cutL2 {α : Sort _} {X : Cps} {c : Code} {Q : Exit → SL → Store → Prop} {G : Prop} (I : α → Prop) (S : α → SL) (ST : α → Store) (pf : ∀ y, I y → X.st c Q (S y) (ST y)) (g : (∀ y, I y → X.st c Q (S y) (ST y)) → G) : G := g pf
theorem within3_range (c : Int) (n : Nat) : 0 ≤ within3 c 0 n ∧ within3 c 0 n ≤ n := by
  unfold within3
  have h1 := Int.emod_nonneg c (show ((n : Int) - 0 + 1) ≠ 0 by omega)
  have h2 := Int.emod_lt_of_pos c (show (0 : Int) < (n : Int) - 0 + 1 by omega)
  omega
theorem okD_nil0 {n : Int} (h : 0 ≤ n ∧ n ≤ 200) : okD 0 ⟨n, [], false, false, 0⟩ := ⟨⟨h.1, by simp only; omega⟩, by simp only [totF]; exact h.1, Nat.le_refl _, by simp, ⟨Int.le_refl 0, (by decide : (0 : Int) ≤ 9223372036854775807)⟩⟩
/-- A region in its own order that turns nothing: slices are settled as they are built. -/
theorem pure_ops {P : Program} {N : Nat} {ops : Array Oper} {st : Store} {Q : Slots → Prop} {K : Slots → Store → Prop} (hk : ∀ s, Q s → K s st) : ∀ (l : List Oper) (s : Slots), pureL P N ops st Q l s → opsD P N ops l s st K
  | [], s, h => hk s h
  | o :: rest, s, h => by
      obtain ⟨d, hy, hd, hK⟩ := h
      have ih := pure_ops hk rest _ hK
      unfold opsD stepD
      rcases hy with ⟨hw, ho⟩ | ⟨hw, rfl⟩
      · rw [hw]
        exact ⟨hd, ho _ ih⟩
      · rw [hw]
        exact ⟨hd, ih⟩
theorem settleL {P : Program} {T : Unit → Tab} (hT : TabOk P (T ())) {H : Unit → Kn} (hH : SoundK P (H ())) {R : Unit → KnR} (hR : SoundR P (R ())) {N : Nat} {Q : Exit → SL → Store → Prop} {s : SL} {st : Store} {id : Nat} {ops : Array Oper} {A : Ar} {X : Cps} (hA : A = A0) (hX : X = X0 P N)
    (h : spZ T A H R N ops.toList s st fun sp => Q .normal sp st) : X.st (.region id ops false) Q s st := by
  subst hA; subst hX
  obtain ⟨l⟩ := ops
  show wpD P N (.region id l.toArray false) (lessQ Q) (getS s) st
  refine wpD_region (pure_ops ?_ l (getS s) (spZ_pure (ops := l.toArray) hT hH hR l s h))
  rintro s' ⟨l', hl, hq⟩
  exact ⟨l', hl, hq⟩
theorem nm_ok (i : Int) (h : 0 ≤ i) : ∃ nm : ByteArray, A0.bstr [[.sc (.int .u8 (A0.wrap .u8 (A0.bin .add .i64 97 (A0.bin .rem .i64 i 4))))]] = nm ∧ mayF nm = true ∧ nm.size ≤ 1048576 ∧ A0.isby [[.sc (.int .u8 (A0.wrap .u8 (A0.bin .add .i64 97 (A0.bin .rem .i64 i 4))))]] := by
  have h0 : i.tmod 4 = i % 4 := Int.tmod_eq_emod_of_nonneg h
  have h1 : A0.bin .rem .i64 i 4 = 0 ∨ A0.bin .rem .i64 i 4 = 1 ∨ A0.bin .rem .i64 i 4 = 2 ∨ A0.bin .rem .i64 i 4 = 3 := by
    have e : ∀ k : Int, i % 4 = k → A0.bin .rem .i64 i 4 = k := by
      rintro k rfl
      exact h0
    have h2 : i % 4 = 0 ∨ i % 4 = 1 ∨ i % 4 = 2 ∨ i % 4 = 3 := by omega
    rcases h2 with h2 | h2 | h2 | h2
    · exact .inl (e _ h2)
    · exact .inr (.inl (e _ h2))
    · exact .inr (.inr (.inl (e _ h2)))
    · exact .inr (.inr (.inr (e _ h2)))
  rcases h1 with h1 | h1 | h1 | h1 <;> rw [h1]
  · exact ⟨_, rfl, by decide +kernel, by decide +kernel, [97], rfl⟩
  · exact ⟨_, rfl, by decide +kernel, by decide +kernel, [98], rfl⟩
  · exact ⟨_, rfl, by decide +kernel, by decide +kernel, [99], rfl⟩
  · exact ⟨_, rfl, by decide +kernel, by decide +kernel, [100], rfl⟩
/-- A statement whose end is told: what comes behind it begins there. -/
theorem stepTo {P : Program} {T : Unit → Tab} (hT : TabOk P (T ())) {H : Unit → Kn} (hH : SoundK P (H ())) (hm : P.follows .mixedOrders = true) {N : Nat} {c : Code} {Q : Exit → SL → Store → Prop} {s : SL} {st : Store} {A : Ar} {X : Cps} (hA : A = A0) (hX : X = X0 P N) (S2 : SL) (ST2 : Store)
    (h1 : ∀ R : SL → Store → Prop, (R = fun s' st' => Told st.length s' st' S2 ST2) → wpC T A X H N c (fun e s' st' => match e with | .normal => R s' st' | _ => False) s st) (h2 : Q .normal S2 ST2) : X.st c Q s st := by
  subst hA; subst hX
  show wpD P N c (lessQ Q) (getS s) st
  refine wpD_after (wpD_mono (wpC_ok hT hH hm c _ _ _ (h1 _ rfl)) ?_)
  rintro e s' st' ⟨l, hl, hq⟩
  cases e <;> first
    | exact ⟨getS S2, ST2, Tells.trans (Tells.any _ _ _ _ hl) hq, S2, fun _ => .inl rfl, h2⟩
    | exact hq.elim
def genO (T : Unit → Tab) (A : Ar) (X : Cps) (H : Unit → Kn) (N : Nat) (ops : Array Oper) (o : Oper) (G : SL → Store → Prop) (s : SL) (st : Store) : Prop :=
  match dstB N o.dst, o.guard with
    | true, none => opC T A X H o.op s st fun d st' => G (putL o.dst d s) st'
    | true, some (j, w) => (match slotOf ops j with
      | some k => (match getS s k with
        | .d (.sc (.bool t)) => brC t
          (fun _ => match w with
            | true => opC T A X H o.op (setS s k (.d (.sc (.bool true)))) st fun d st' => G (putL o.dst d (setS s k (.d (.sc (.bool true))))) st'
            | false => G (putL o.dst (.d (.sc (.tuple #[]))) (setS s k (.d (.sc (.bool true))))) st)
          (fun _ => match w with
            | false => opC T A X H o.op (setS s k (.d (.sc (.bool false)))) st fun d st' => G (putL o.dst d (setS s k (.d (.sc (.bool false))))) st'
            | true => G (putL o.dst (.d (.sc (.tuple #[]))) (setS s k (.d (.sc (.bool false))))) st)
        | .d (.sc (.tuple _)) => G (putL o.dst (.d (.sc (.tuple #[]))) s) st
        | _ => False)
      | none => False)
    | false, _ => False
theorem genS {T : Unit → Tab} {A : Ar} {X : Cps} {H : Unit → Kn} {N : Nat} {ops : Array Oper} {o : Oper} {l : List Oper} {s : SL} {st : Store} {Q : SL → Store → Prop} (h : ∀ G, G = (fun s' st' => genG T A X H N ops l s' st' Q) → genO T A X H N ops o G s st) : genG T A X H N ops (o :: l) s st Q := by
  have := h _ rfl
  unfold genG
  exact this
def slotC : Operand → Nat
  | .tmp t => t
  | _ => 0
theorem pickL {P : Program} {N : Nat} {X : Cps} (hX : X = X0 P N) {c x y : Operand} {s : SL} {st : Store} {K : DV → Store → Prop} {t : Bool} (hc : getS s (slotC c) = .d (.sc (.bool t))) (hcc : c = .tmp (slotC c)) (hk : K (bif t then evL s x else evL s y) st) : X.op (.pick c x y) s st K := by
  refine opL hX ?_
  have hev : ev (getS s) c = .d (.sc (.bool t)) := by rw [hcc]; exact hc
  show pickD (ev (getS s) c) (ev (getS s) x) (ev (getS s) y) fun d => K d st
  rw [hev]
  unfold pickD
  simp only
  split
  · rename_i p q h1 h2
    have e : (bif t then evL s x else evL s y) = .d (.sc (.bool (bif t then p else q))) := by
      cases t
      · exact h2
      · exact h1
    rw [← e]; exact hk
  · cases t
    · exact ⟨fun h => (by cases h), fun _ => hk⟩
    · exact ⟨fun _ => hk, fun h => (by cases h)⟩
def partsX (ps : List (List (List PD))) : List (List PD) := ps.map fun p => [.slc 1 p]

set_option maxRecDepth 100000 in
theorem v_roomL (q : Int) (ps : List (List (List PD))) (hq : r64 q) (hps : ∀ p ∈ ps, isB p) (hl : ps.length ≤ 1048576) : FnV Try.prog 5 [.d (.sc (.int .i64 q)), .d (.slc 1 (partsX ps))] (boolD true) := by
  obtain ⟨xs, hxs⟩ : ∃ xs, xs = partsX ps := ⟨_, rfl⟩
  rw [← hxs]
  have hxl : xs.length = ps.length := by rw [hxs]; simp [partsX]
  obtain ⟨GFsQ, hFsQ⟩ : ∃ F, F = FsQ0 := ⟨_, rfl⟩
  obtain ⟨GFsRu, hFsRu⟩ : ∃ F, F = FsRu0 := ⟨_, rfl⟩
  obtain ⟨GFsL, hFsL⟩ : ∃ F, F = FsL0 := ⟨_, rfl⟩
  obtain ⟨GFsK, hFsK⟩ : ∃ F, F = FsK0 := ⟨_, rfl⟩
  obtain ⟨GFsM, hFsM⟩ : ∃ F, F = FsM0 := ⟨_, rfl⟩
  have hH : SoundK Try.prog [kn_within3 GFsQ, kn_runs GFsRu] := by subst hFsQ hFsRu hFsL hFsK hFsM; exact orK_ok ok_within3 (orK_ok ok_runs noK_ok)
  have hB : SoundB Try.prog [kb_new GFsL, kb_total GFsK, kb_room GFsM, kb_read GFsL] := by subst hFsQ hFsRu hFsL hFsK hFsM; exact orB_ok okb_new (orB_ok okb_total (orB_ok okb_room (orB_ok okb_read noB_ok)))
  refine FnD_cbv (T := fun _ => tabY [40] [11, 12, 13, 14, 19]) (H := fun _ => [kn_within3 GFsQ, kn_runs GFsRu]) (tabY_ok _ _) hH follows_mixed Try.func5 rfl Try.ntmps5 (by simp) fun A X W hA hX hW => ?_
  cbv
  have f1 : A.cmp .neq 0 0 = false := by subst hA; rfl
  cbv at f1
  have f2 : A.cond false true false = false := by subst hA; rfl
  cbv at f2
  have f3 : A.not (A.beq true true) = false := by subst hA; rfl
  cbv at f3
  have f4 : A.not (A.beq false false) = false := by subst hA; rfl
  cbv at f4
  have f5 : A.cmp .neq 7 0 = true := by subst hA; rfl
  cbv at f5
  have f6 : A.cmp .neq 7 7 = false := by subst hA; rfl
  cbv at f6
  have f7 : A.cond true false false = false := by subst hA; rfl
  cbv at f7
  have f8 : A.cond true true false = true := by subst hA; rfl
  cbv at f8
  have f9 : A.cmp .eql 0 0 = true := by subst hA; rfl
  cbv at f9
  have f10 : A.cmp .eql 8 0 = false := by subst hA; rfl
  cbv at f10
  obtain ⟨n, hn⟩ : ∃ n, GFsQ.within3 q 0 200 = n := ⟨_, rfl⟩
  have hn1 : 0 ≤ n ∧ n ≤ 200 := by subst hn hFsQ; exact within3_range q 200
  cbv at hn
  simp only [hn]
  cbv
  repeat first
    | (simp only [f1, f2, f3, f4, f5, f6, f7, f8, f9, f10]; cbv)
    | refine And.intro (by
         subst hA hX hW hFsQ hFsL hFsK hFsM hFsRu
         clear hH hB
         first
           | exact trivial
           | exact rfl
           | (simp [A0]; done)
           | (intro q; exact q)
           | (intro q; simpa [A0] using q)
           | (intro _; trivial)
           | (show Region.lexB _ _ = true; kernel_rfl)
           | (show turnsB _ = true; kernel_rfl)
           | exact hq
           | exact ⟨by omega, by omega⟩
           | exact ⟨by decide, by decide⟩) ?_
    | ((with_reducible refine callB hX hB ?_); cbv; fail_if_success show False)
  refine loopL (T := fun _ => tabY [40] [11, 12, 13, 14, 19]) (H := fun _ => [kn_within3 GFsQ, kn_runs GFsRu]) (tabY_ok _ _) hH follows_mixed hA hX (fun x : Int × Fr × List FileM => 0 ≤ x.1 ∧ x.1 ≤ xs.length ∧ x.1 ≤ 30 ∧ x.2.1.is x.2.2 ∧ okD x.1.toNat ⟨n, x.2.2, false, false, 0⟩)
    (fun x => [(1, .d (.slc 1 xs)), (5, .d (.sc (.int .i64 n))), (6, .ref 0 0 0), (8, .d (.sc (.int .i64 x.1)))]) (fun x => dkS n x.2.1 false false 0)
    (fun x => xs.length - x.1.toNat) (0, none, []) ?_ ?_ ?_
  · exact ⟨by simp only; omega, by simp only; omega, by simp only; omega, rfl, okD_nil0 hn1⟩
  · subst hA hFsL; exact told_less (by simp [toldP, getS, A0])
  rintro R ⟨i, fr, L⟩ hR ⟨i0, i1, i2, hfr, hD⟩
  replace i0 : 0 ≤ i := i0
  replace i1 : i ≤ xs.length := i1
  replace i2 : i ≤ 30 := i2
  replace hfr : fr.is L := hfr
  replace hD : okD i.toNat ⟨n, L, false, false, 0⟩ := hD
  have hD9 : okD 900 ⟨n, L, false, false, 0⟩ := hD.mono (by omega)
  have hrow : ∀ i : Int, 0 ≤ i → i < xs.length → ∃ p, xs.getD i.toNat [] = [.slc 1 p] ∧ isB p := by
    intro i h0 h1
    have h2 : i.toNat < ps.length := by omega
    refine ⟨ps[i.toNat], ?_, hps _ (List.getElem_mem h2)⟩
    rw [hxs, List.getD_eq_getElem?_getD]
    simp [partsX, h2]
  rcases fr with _ | ⟨v, m, cs⟩
  · replace hfr : L = [] := hfr
    subst hfr
    have hO : okD 900 ⟨n, rowF [], false, false, 0⟩ := hD9
    cbv
    apply cutL2 (X := X) (fun p : List (List PD) => isB p ∧ p.length ≤ 100 ∧ i < xs.length ∧ i < 30) (fun p => [(1, .d (.slc 1 xs)), (5, .d (.sc (.int .i64 n))), (6, .ref 0 0 0), (8, .d (.sc (.int .i64 i))), (9, .d (.slc 1 p))]) (fun _ => [dB n (.d (.sc (.slice none 0 0))) false false 0])
    rotate_left
    · intro key
      repeat' first
        | (refine part (fun h => ?_) (fun h => ?_) <;> try cbv)
        | (refine And.intro ?_ ?_)
      all_goals first
        | (subst hA hX hW hFsQ hFsL hFsK hFsM hFsRu; exact ret_v rfl rfl)
        | (intro q; exact q)
        | (intro _; trivial)
        | (subst hA; intro q; simpa [A0] using q)
        | (have h9 : A.cond (A.cmp .lss i (A.len xs)) (A.cmp .lss i 30) false = true := by assumption
           obtain ⟨hlt, hlt30⟩ : i < xs.length ∧ i < 30 := by
             subst hA
             simp only [A0, cond_eq_ite, decide_eq_true_eq, Bool.if_false_right, Bool.and_eq_true] at h9
             exact h9
           obtain ⟨p, hp0, hpb⟩ := hrow i i0 hlt
           have e : A.gl (A.lift (A.row xs i)) 0 = p := by subst hA; simp only [A0, hp0]; rfl
           first
             | (subst hA; exact ⟨i0, hlt⟩)
             | (subst hA; simp only [A0, hp0]; exact ⟨rfl, Nat.le_refl _, rfl⟩)
             | (have h8 : A.cmp .gtr (A.len (A.gl (A.lift (A.row xs i)) 0)) 100 = true := by assumption
                replace h8 : (100 : Int) < p.length := by
                  rw [e] at h8
                  subst hA
                  simp only [A0, decide_eq_true_eq] at h8
                  exact h8
                first
                  | (show A.bnd 0 100 (A.len (A.gl (A.lift (A.row xs i)) 0)); rw [e]; subst hA; exact (⟨by decide, by decide, by omega⟩ : (0 : Int) ≤ 0 ∧ (0 : Int) ≤ 100 ∧ (100 : Int) ≤ (p.length : Int)))
                  | (rw [e]; subst hA; simp only [A0]; show (100 : Int) ≤ (p.length : Int); omega)
                  | (refine pauseL hX (s' := _) (st' := _) ?_ (key (p.take 100) ⟨isB.take hpb _, by simp only [List.length_take]; omega, hlt, hlt30⟩)
                     subst hA
                     exact told_less (by simp [toldP, getS, e]; simp [A0])))
             | (have h8 : A.cmp .gtr (A.len (A.gl (A.lift (A.row xs i)) 0)) 100 = false := by assumption
                replace h8 : ¬ (100 : Int) < p.length := by
                  rw [e] at h8
                  subst hA
                  simp only [A0, decide_eq_false_iff_not] at h8
                  exact h8
                refine pauseL hX (s' := _) (st' := _) ?_ (key p ⟨hpb, by omega, hlt, hlt30⟩)
                exact told_less (by simp [toldP, getS, e])))
        | fail
    · rintro p ⟨hp, hp1, hlt, hlt30⟩
      obtain ⟨nm, hnm, hmay, hsz, hby⟩ := nm_ok i i0
      with_reducible refine goL (T := fun _ => tabY [40] []) (H := fun _ => [kn_within3 GFsQ, kn_runs GFsRu]) (tabY_ok _ _) hH follows_mixed hA hX ?_
      cbv
      obtain ⟨t, ht⟩ : ∃ t, GFsK.tot [] = t := ⟨_, rfl⟩
      have ht1 : t = totF [] := by subst ht hFsK; rfl
      have ht5 : 0 ≤ t ∧ t ≤ n := by
        have h1 := totF_nonneg []
        have h2 := hD9.tot
        simp only at h2
        omega
      cbv at ht
      repeat first
        | (simp only [f1, f2, f3, f4, f5, f6, f7, f8, f9, f10, ht]; cbv)
        | refine And.intro (by
             subst hA hX hW hFsQ hFsL hFsK hFsM hFsRu
             clear hH hB
             first
               | exact trivial
               | exact rfl
               | (simp [A0]; done)
               | (intro q; exact q)
               | (intro q; simpa [A0] using q)
               | (intro _; trivial)
               | (show Region.lexB _ _ = true; kernel_rfl)
               | (show turnsB _ = true; kernel_rfl)
               | assumption) ?_
        | ((with_reducible refine callB hX hB ?_); cbv; fail_if_success show False)
      (with_reducible refine settleL (T := fun _ => tabY [40] []) (H := fun _ => [kn_within3 GFsQ, kn_runs GFsRu]) (R := fun _ => []) (A := A) (tabY_ok _ _) hH noR_ok hA hX ?_)
      cbv
      repeat first
        | (simp only [f1, f2, f3, f4, f5, f6, f7, f8, f9, f10, ht]; cbv)
        | refine And.intro (by
             subst hA hX hW hFsQ hFsL hFsK hFsM hFsRu
             clear hH hB
             first
               | exact trivial
               | exact rfl
               | (simp [A0]; done)
               | (intro q; exact q)
               | (intro q; simpa [A0] using q)
               | (intro _; trivial)
               | (show Region.lexB _ _ = true; kernel_rfl)
               | (show turnsB _ = true; kernel_rfl)
               | assumption) ?_
        | ((with_reducible refine callB hX hB ?_); cbv; fail_if_success show False)
      try refine And.intro (by subst hA; exact hby) ?_
      refine pauseL hX (s' := [(1, .d (.slc 1 xs)), (5, .d (.sc (.int .i64 n))), (6, .ref 0 0 0), (8, .d (.sc (.int .i64 i))), (9, .d (.slc 1 p)), (10, .d (.sc (.int .i64 t))), (11, .d (.sc (.string nm)))]) (st' := _) (told_less (by subst hA hnm; simp [toldP, getS])) ?_
      with_reducible refine goL (T := fun _ => tabY [40] []) (H := fun _ => [kn_within3 GFsQ, kn_runs GFsRu]) (tabY_ok _ _) hH follows_mixed hA hX ?_
      cbv
      by_cases hcap : t + p.length ≤ n
      · have hcap2 : totF ([] : List FileM) + p.length ≤ n := by rw [← ht1]; exact hcap
        have hy := app_yes (q := n) (L := ([] : List FileM)) hmay hcap2
        have hD1 : okD (i.toNat + 1) ⟨n, addF ([] : List FileM) nm p, false, false, 0⟩ := by
          have := hD.app (name := nm) hp
          rw [hy] at this
          exact this
        have htt : totF (addF ([] : List FileM) nm p) = t + p.length := by rw [addF_tot, ht1]
        obtain ⟨L1, hL1⟩ : ∃ L1, L1 = addF ([] : List FileM) nm p := ⟨_, rfl⟩
        rw [← hL1] at hy hD1 htt
        refine callL hX (app0 nm p 0 rfl hD9 hsz hp hy (fun h0 => ?_) fun v1 n1 c1 hc1 hm1 => ?_)
        · exfalso
          rw [h0] at hL1
          rcases addF_ne [] nm p with h | h
          · exact h hL1.symm
          · exact h rfl
        cbv
        have hD8 : okD 900 ⟨n, L1, false, false, 0⟩ := hD1.mono (by omega)
        have hF8 := isF_of hc1 hm1 (hD8.okL (by decide))
        have hO8 := okD_of hc1 hD8
        obtain ⟨t1, ht2⟩ : ∃ t1, GFsK.tot c1 = t1 := ⟨_, rfl⟩
        have ht3 : t1 = t + p.length := by
          rw [← htt]
          subst ht2 hFsK
          show totX c1 = _
          unfold totX
          rw [hc1, rowF_cells]
        obtain ⟨r1, hr1⟩ : ∃ r1, GFsM.room c1 n = r1 := ⟨_, rfl⟩
        have hr2 : r1 = n - t1 := by
          subst hr1 ht2 hFsM hFsK
          rfl
        cbv at ht2 hr1
        replace ht3 : t1 = (t + (p.length : Int) : Int) := ht3
        replace hcap : t + (p.length : Int) ≤ n := hcap
        have b1 : A.cmp .eql 0 0 = true := by subst hA; rfl
        have b2 : A.cmp .leq (A.bin .add .i64 t (A.len p)) n = true := by
          subst hA
          simp only [A0, decide_eq_true_eq]
          rw [wrap_i64 (by unfold r64; omega)]
          exact hcap
        have b6 : A.cmp .leq t1 n = true := by subst hA; simp only [A0, decide_eq_true_eq]; omega
        have b7 : A.cmp .gtr t1 n = false := by subst hA; simp only [A0, decide_eq_false_iff_not]; omega
        have b8 : A.cmp .neq r1 (A.bin .sub .i64 n t1) = false := by
          subst hA
          simp only [A0]
          rw [wrap_i64 (by unfold r64; omega)]
          simp [hr2]
        cbv at b1 b2 b6 b7 b8
        refine stepTo (T := fun _ => tabY [40] []) (H := fun _ => [kn_within3 GFsQ, kn_runs GFsRu]) (tabY_ok _ _) hH follows_mixed hA hX [(1, .d (.slc 1 xs)), (5, .d (.sc (.int .i64 n))), (6, .ref 0 0 0), (8, .d (.sc (.int .i64 i))), (10, .d (.sc (.int .i64 t))), (11, .d (.sc (.string nm))), (96, .d (.sc (.bool false)))] [dB n (.view 3 1 v1 0 n1) false false 0, fB c1 v1] (fun R2 hR2 => ?_) ?_
        · show genG _ _ _ _ _ _ _ _ _ _
          repeat
            (refine genS (fun G hG => ?_)
             cbv
             repeat first
               | (simp only [f1, f2, f3, f4, f5, f6, f7, f8, f9, f10, ht2, hr1, b1, b2, b6, b7, b8]; cbv)
               | refine And.intro (by
                    subst hA hX hW hFsQ hFsL hFsK hFsM hFsRu
                    clear hH hB
                    first
                      | exact trivial
                      | exact rfl
                      | (simp [A0]; done)
                      | (intro q; exact q)
                      | (intro q; simpa [A0] using q)
                      | (intro _; trivial)
                      | (show Region.lexB _ _ = true; kernel_rfl)
                      | (show turnsB _ = true; kernel_rfl)
                      | assumption) ?_
               | ((with_reducible refine callB hX hB ?_); cbv; fail_if_success show False)
               | (refine pickL hX (t := true) (by rfl) rfl ?_; cbv)
               | (refine pickL hX (t := false) (by rfl) rfl ?_; cbv)
             subst hG)
          cbv
          clear hH hB hX
          subst hR2
          exact told_less (by simp [toldP, getS])
        · cbv
          have wi : IntKind.wrap .i64 (i + 1) = i + 1 := wrap_i64 (by unfold r64; omega)
          refine And.intro (by subst hA; exact (by decide : (5 : Int) ≠ 0)) ?_
          refine part (fun h5 => ?_) (fun h5 => ?_)
          · cbv
            obtain ⟨d, hd⟩ : ∃ d, GFsL.rd c1 nm = d := ⟨_, rfl⟩
            obtain ⟨fb, hfb⟩ : ∃ b, (GFsL.find c1 nm).2 = b := ⟨_, rfl⟩
            have hrw : rowF c1 = L1 := by rw [hc1, rowF_cells]
            have hd2 : (Dk.mk 0 L1 false false 0).reads nm = d := by
              rw [← hd]
              subst hFsL
              show _ = readsX c1 nm
              unfold readsX
              rw [hrw]
            have hf2 : (findF nm L1 0).2 = fb := by
              rw [← hfb]
              subst hFsL
              show _ = (findX c1 nm).2
              unfold findX
              rw [hrw]
            cbv at hd hfb
            repeat first
              | (simp only [f1, f2, f3, f4, f5, f6, f7, f8, f9, f10, hd, hfb, ht2]; cbv)
              | refine And.intro (by
                   subst hA hX hW hFsQ hFsL hFsK hFsM hFsRu
                   clear hH hB
                   first
                     | exact trivial
                     | exact rfl
                     | (simp [A0]; done)
                     | (intro q; exact q)
                     | (intro q; simpa [A0] using q)
                     | (intro _; trivial)
                     | (show Region.lexB _ _ = true; kernel_rfl)
                     | (show turnsB _ = true; kernel_rfl)
                     | assumption) ?_
              | ((with_reducible refine callB hX hB ?_); cbv; fail_if_success show False)
            cases fb
            · obtain ⟨hrem, hrd⟩ := rem_no (q := n) hf2
              obtain ⟨L2, hL2⟩ : ∃ L2, L2 = L1 := ⟨_, rfl⟩
              have hd0 : d.length = 0 := by rw [← hd2, hrd]; rfl
              have ht7 : totF L2 = t1 - (d.length : Int) := by rw [hL2, hd0, htt, ht3]; simp
              have hD2 : okD (i.toNat + 1) ⟨n, L2, false, false, 0⟩ := by rw [hL2]; exact hD1
              have hrem : (Dk.mk n L1 false false 0).rem nm = (8, ⟨n, L2, false, false, 0⟩) := by rw [hL2]; exact hrem
              have hdb : (0 : Int) ≤ d.length ∧ (d.length : Int) ≤ t1 ∧ t1 ≤ 1048576 := by
                have h1 := totF_nonneg L2
                have h2 := hD8.tot
                have h3 := hD8.q
                simp only at h2 h3
                have h4 : t1 = totF L1 := by rw [htt]; exact ht3
                omega
              with_reducible refine goL (T := fun _ => tabY [40] []) (H := fun _ => [kn_within3 GFsQ, kn_runs GFsRu]) (tabY_ok _ _) hH follows_mixed hA hX ?_
              cbv
              refine callL hX (rem1 nm 0 1 L1 rfl rfl (by decide) hc1 hm1 hD8 hrem fun v2 n2 c2 hc2 hm2 => ?_)
              cbv
              have hF9 := isF_of hc2 hm2 ((hD2.mono (by omega) : okD 900 _).okL (by decide))
              have hO9 := okD_of hc2 (hD2.mono (by omega) : okD 900 _)
              obtain ⟨t3, ht8⟩ : ∃ t3, GFsK.tot c2 = t3 := ⟨_, rfl⟩
              have ht9 : t3 = t1 - (d.length : Int) := by
                rw [← ht7]
                subst ht8 hFsK
                show totX c2 = _
                unfold totX
                rw [hc2, rowF_cells]
              have b9 : A.cmp .neq t3 (A.bin .sub .i64 t1 (A.len d)) = false := by
                have hdl : (0 : Int) ≤ d.length ∧ (d.length : Int) ≤ t1 ∧ t1 ≤ 1048576 := hdb
                subst hA
                simp only [A0]
                rw [wrap_i64 (by unfold r64; omega)]
                simp [ht9]
              cbv at ht8 b9
              repeat first
                | (simp only [f1, f2, f3, f4, f5, f6, f7, f8, f9, f10, ht8, b9]; cbv)
                | refine And.intro (by
                     subst hA hX hW hFsQ hFsL hFsK hFsM hFsRu
                     clear hH hB
                     first
                       | exact trivial
                       | exact rfl
                       | (simp [A0]; done)
                       | (intro q; exact q)
                       | (intro q; simpa [A0] using q)
                       | (intro _; trivial)
                       | (show Region.lexB _ _ = true; kernel_rfl)
                       | (show turnsB _ = true; kernel_rfl)
                       | assumption) ?_
                | ((with_reducible refine callB hX hB ?_); cbv; fail_if_success show False)
                  | (refine pickL hX (t := true) (by rfl) rfl ?_; cbv)
                  | (refine pickL hX (t := false) (by rfl) rfl ?_; cbv)
              replace i0 : 0 ≤ i := i0
              replace hlt : i < (xs.length : Int) := hlt
              replace hlt30 : i < 30 := hlt30
              subst hR
              refine ⟨(i + 1, some (v2, n2, c2), L2), ⟨by show 0 ≤ i + 1; omega, by show i + 1 ≤ (xs.length : Int); omega, by show i + 1 ≤ 30; omega, ⟨hc2, hm2⟩, ?_⟩, by show xs.length - (i + 1).toNat < xs.length - i.toNat; omega, ?_⟩
              · show okD (i + 1).toNat _
                rw [show (i + 1).toNat = i.toNat + 1 by omega]
                exact hD2
              · subst hA
                exact told_less (by simp [toldP, getS, A0, wi])
            · obtain ⟨L2, d2, hrem, ht7, hrd⟩ := rem_yes (q := n) hf2
              have hdd : d2 = d := hrd.symm.trans hd2
              rw [hdd] at ht7
              have ht7 : totF L2 = t1 - (d.length : Int) := by rw [ht7, htt, ht3]
              have hD2 : okD (i.toNat + 1) ⟨n, L2, false, false, 0⟩ := by
                have := hD1.rem nm
                rw [hrem] at this
                exact this
              have hdb : (0 : Int) ≤ d.length ∧ (d.length : Int) ≤ t1 ∧ t1 ≤ 1048576 := by
                have h1 := totF_nonneg L2
                have h2 := hD8.tot
                have h3 := hD8.q
                simp only at h2 h3
                have h4 : t1 = totF L1 := by rw [htt]; exact ht3
                omega
              with_reducible refine goL (T := fun _ => tabY [40] []) (H := fun _ => [kn_within3 GFsQ, kn_runs GFsRu]) (tabY_ok _ _) hH follows_mixed hA hX ?_
              cbv
              refine callL hX (rem1 nm 0 1 L1 rfl rfl (by decide) hc1 hm1 hD8 hrem fun v2 n2 c2 hc2 hm2 => ?_)
              cbv
              have hF9 := isF_of hc2 hm2 ((hD2.mono (by omega) : okD 900 _).okL (by decide))
              have hO9 := okD_of hc2 (hD2.mono (by omega) : okD 900 _)
              obtain ⟨t3, ht8⟩ : ∃ t3, GFsK.tot c2 = t3 := ⟨_, rfl⟩
              have ht9 : t3 = t1 - (d.length : Int) := by
                rw [← ht7]
                subst ht8 hFsK
                show totX c2 = _
                unfold totX
                rw [hc2, rowF_cells]
              have b9 : A.cmp .neq t3 (A.bin .sub .i64 t1 (A.len d)) = false := by
                have hdl : (0 : Int) ≤ d.length ∧ (d.length : Int) ≤ t1 ∧ t1 ≤ 1048576 := hdb
                subst hA
                simp only [A0]
                rw [wrap_i64 (by unfold r64; omega)]
                simp [ht9]
              cbv at ht8 b9
              repeat first
                | (simp only [f1, f2, f3, f4, f5, f6, f7, f8, f9, f10, ht8, b9]; cbv)
                | refine And.intro (by
                     subst hA hX hW hFsQ hFsL hFsK hFsM hFsRu
                     clear hH hB
                     first
                       | exact trivial
                       | exact rfl
                       | (simp [A0]; done)
                       | (intro q; exact q)
                       | (intro q; simpa [A0] using q)
                       | (intro _; trivial)
                       | (show Region.lexB _ _ = true; kernel_rfl)
                       | (show turnsB _ = true; kernel_rfl)
                       | assumption) ?_
                | ((with_reducible refine callB hX hB ?_); cbv; fail_if_success show False)
                  | (refine pickL hX (t := true) (by rfl) rfl ?_; cbv)
                  | (refine pickL hX (t := false) (by rfl) rfl ?_; cbv)
              replace i0 : 0 ≤ i := i0
              replace hlt : i < (xs.length : Int) := hlt
              replace hlt30 : i < 30 := hlt30
              subst hR
              refine ⟨(i + 1, some (v2, n2, c2), L2), ⟨by show 0 ≤ i + 1; omega, by show i + 1 ≤ (xs.length : Int); omega, by show i + 1 ≤ 30; omega, ⟨hc2, hm2⟩, ?_⟩, by show xs.length - (i + 1).toNat < xs.length - i.toNat; omega, ?_⟩
              · show okD (i + 1).toNat _
                rw [show (i + 1).toNat = i.toNat + 1 by omega]
                exact hD2
              · subst hA
                exact told_less (by simp [toldP, getS, A0, wi])
          · cbv
            replace i0 : 0 ≤ i := i0
            replace hlt : i < (xs.length : Int) := hlt
            replace hlt30 : i < 30 := hlt30
            subst hR
            refine ⟨(i + 1, some (v1, n1, c1), L1), ⟨by show 0 ≤ i + 1; omega, by show i + 1 ≤ (xs.length : Int); omega, by show i + 1 ≤ 30; omega, ⟨hc1, hm1⟩, ?_⟩, by show xs.length - (i + 1).toNat < xs.length - i.toNat; omega, ?_⟩
            · show okD (i + 1).toNat _
              rw [show (i + 1).toNat = i.toNat + 1 by omega]
              exact hD1
            · subst hA
              exact told_less (by simp [toldP, getS, A0, wi])
      · have hy := app_no (q := n) (L := ([] : List FileM)) (nm := nm) (p := p) hmay (by rw [← ht1]; exact hcap)
        have hD1 : okD (i.toNat + 1) ⟨n, ([] : List FileM), false, false, 0⟩ := hD.mono (Nat.le_succ _)
        have htt : totF ([] : List FileM) = t := by rw [ht1]
        obtain ⟨L1, hL1⟩ : ∃ L1, L1 = ([] : List FileM) := ⟨_, rfl⟩
        rw [← hL1] at hD1 htt
        refine callL hX (app0 nm p 0 rfl hD9 hsz hp hy (fun _ => ?_) fun v1 n1 c1 hc1 hm1 => ?_)
        · cbv
          have hD8 : okD 900 ⟨n, L1, false, false, 0⟩ := hD1.mono (by omega)
          have hO8 : okD 900 ⟨n, rowF [], false, false, 0⟩ := by rw [show rowF [] = L1 from hL1.symm]; exact hD8
          obtain ⟨t1, ht2⟩ : ∃ t1, GFsK.tot [] = t1 := ⟨_, rfl⟩
          have ht3 : t1 = t := by
            rw [← htt]
            subst ht2 hFsK
            show totX [] = _
            unfold totX
            rw [hL1, show rowF [] = [] from rfl]
          obtain ⟨r1, hr1⟩ : ∃ r1, GFsM.room [] n = r1 := ⟨_, rfl⟩
          have hr2 : r1 = n - t1 := by
            subst hr1 ht2 hFsM hFsK
            rfl
          cbv at ht2 hr1
          replace ht3 : t1 = (t : Int) := ht3
          replace hcap : ¬ t + (p.length : Int) ≤ n := hcap
          have b1 : A.cmp .eql 7 0 = false := by subst hA; rfl
          have b2 : A.cmp .leq (A.bin .add .i64 t (A.len p)) n = false := by
            subst hA
            simp only [A0, decide_eq_false_iff_not]
            rw [wrap_i64 (by unfold r64; omega)]
            exact hcap
          have b6 : A.cmp .neq t1 t = false := by subst hA; simp [A0, ht3]
          have b7 : A.cmp .gtr t1 n = false := by subst hA; simp only [A0, decide_eq_false_iff_not]; omega
          have b8 : A.cmp .neq r1 (A.bin .sub .i64 n t1) = false := by
            subst hA
            simp only [A0]
            rw [wrap_i64 (by unfold r64; omega)]
            simp [hr2]
          cbv at b1 b2 b6 b7 b8
          refine stepTo (T := fun _ => tabY [40] []) (H := fun _ => [kn_within3 GFsQ, kn_runs GFsRu]) (tabY_ok _ _) hH follows_mixed hA hX [(1, .d (.slc 1 xs)), (5, .d (.sc (.int .i64 n))), (6, .ref 0 0 0), (8, .d (.sc (.int .i64 i))), (10, .d (.sc (.int .i64 t))), (11, .d (.sc (.string nm))), (96, .d (.sc (.bool false)))] [dB n (.d (.sc (.slice none 0 0))) false false 0] (fun R2 hR2 => ?_) ?_
          · show genG _ _ _ _ _ _ _ _ _ _
            repeat
              (refine genS (fun G hG => ?_)
               cbv
               repeat first
                 | (simp only [f1, f2, f3, f4, f5, f6, f7, f8, f9, f10, ht2, hr1, b1, b2, b6, b7, b8]; cbv)
                 | refine And.intro (by
                      subst hA hX hW hFsQ hFsL hFsK hFsM hFsRu
                      clear hH hB
                      first
                        | exact trivial
                        | exact rfl
                        | (simp [A0]; done)
                        | (intro q; exact q)
                        | (intro q; simpa [A0] using q)
                        | (intro _; trivial)
                        | (show Region.lexB _ _ = true; kernel_rfl)
                        | (show turnsB _ = true; kernel_rfl)
                        | assumption) ?_
                 | ((with_reducible refine callB hX hB ?_); cbv; fail_if_success show False)
                 | (refine pickL hX (t := true) (by rfl) rfl ?_; cbv)
                 | (refine pickL hX (t := false) (by rfl) rfl ?_; cbv)
               subst hG)
            cbv
            clear hH hB hX
            subst hR2
            exact told_less (by simp [toldP, getS])
          · cbv
            have wi : IntKind.wrap .i64 (i + 1) = i + 1 := wrap_i64 (by unfold r64; omega)
            refine And.intro (by subst hA; exact (by decide : (5 : Int) ≠ 0)) ?_
            refine part (fun h5 => ?_) (fun h5 => ?_)
            · cbv
              obtain ⟨d, hd⟩ : ∃ d, GFsL.rd [] nm = d := ⟨_, rfl⟩
              obtain ⟨fb, hfb⟩ : ∃ b, (GFsL.find [] nm).2 = b := ⟨_, rfl⟩
              have hrw : rowF [] = L1 := by rw [hL1, show rowF [] = [] from rfl]
              have hd2 : (Dk.mk 0 L1 false false 0).reads nm = d := by
                rw [← hd]
                subst hFsL
                show _ = readsX [] nm
                unfold readsX
                rw [hrw]
              have hf2 : (findF nm L1 0).2 = fb := by
                rw [← hfb]
                subst hFsL
                show _ = (findX [] nm).2
                unfold findX
                rw [hrw]
              cbv at hd hfb
              repeat first
                | (simp only [f1, f2, f3, f4, f5, f6, f7, f8, f9, f10, hd, hfb, ht2]; cbv)
                | refine And.intro (by
                     subst hA hX hW hFsQ hFsL hFsK hFsM hFsRu
                     clear hH hB
                     first
                       | exact trivial
                       | exact rfl
                       | (simp [A0]; done)
                       | (intro q; exact q)
                       | (intro q; simpa [A0] using q)
                       | (intro _; trivial)
                       | (show Region.lexB _ _ = true; kernel_rfl)
                       | (show turnsB _ = true; kernel_rfl)
                       | assumption) ?_
                | ((with_reducible refine callB hX hB ?_); cbv; fail_if_success show False)
              cases fb
              · obtain ⟨hrem, hrd⟩ := rem_no (q := n) hf2
                obtain ⟨L2, hL2⟩ : ∃ L2, L2 = L1 := ⟨_, rfl⟩
                have hd0 : d.length = 0 := by rw [← hd2, hrd]; rfl
                have ht7 : totF L2 = t1 - (d.length : Int) := by rw [hL2, hd0, htt, ht3]; simp
                have hD2 : okD (i.toNat + 1) ⟨n, L2, false, false, 0⟩ := by rw [hL2]; exact hD1
                have hrem : (Dk.mk n L1 false false 0).rem nm = (8, ⟨n, L2, false, false, 0⟩) := by rw [hL2]; exact hrem
                have hdb : (0 : Int) ≤ d.length ∧ (d.length : Int) ≤ t1 ∧ t1 ≤ 1048576 := by
                  have h1 := totF_nonneg L2
                  have h2 := hD8.tot
                  have h3 := hD8.q
                  simp only at h2 h3
                  have h4 : t1 = totF L1 := by rw [htt]; exact ht3
                  omega
                with_reducible refine goL (T := fun _ => tabY [40] []) (H := fun _ => [kn_within3 GFsQ, kn_runs GFsRu]) (tabY_ok _ _) hH follows_mixed hA hX ?_
                cbv
                refine callL hX (rem0 nm 0 rfl (hL1 ▸ hD8) (hL1 ▸ hrem) (fun _ => ?_) fun v2 n2 c2 hc2 hm2 => ?_)
                · cbv
                  have hO9 : okD 900 ⟨n, rowF [], false, false, 0⟩ := by rw [show rowF [] = L1 from hL1.symm]; exact hD8
                  obtain ⟨t3, ht8⟩ : ∃ t3, GFsK.tot [] = t3 := ⟨_, rfl⟩
                  have ht9 : t3 = t1 - (d.length : Int) := by
                    rw [← ht7]
                    subst ht8 hFsK
                    show totX [] = _
                    unfold totX
                    rw [hL2, hL1, show rowF [] = [] from rfl]
                  have b9 : A.cmp .neq t3 (A.bin .sub .i64 t1 (A.len d)) = false := by
                    have hdl : (0 : Int) ≤ d.length ∧ (d.length : Int) ≤ t1 ∧ t1 ≤ 1048576 := hdb
                    subst hA
                    simp only [A0]
                    rw [wrap_i64 (by unfold r64; omega)]
                    simp [ht9]
                  cbv at ht8 b9
                  repeat first
                    | (simp only [f1, f2, f3, f4, f5, f6, f7, f8, f9, f10, ht8, b9]; cbv)
                    | refine And.intro (by
                         subst hA hX hW hFsQ hFsL hFsK hFsM hFsRu
                         clear hH hB
                         first
                           | exact trivial
                           | exact rfl
                           | (simp [A0]; done)
                           | (intro q; exact q)
                           | (intro q; simpa [A0] using q)
                           | (intro _; trivial)
                           | (show Region.lexB _ _ = true; kernel_rfl)
                           | (show turnsB _ = true; kernel_rfl)
                           | assumption) ?_
                    | ((with_reducible refine callB hX hB ?_); cbv; fail_if_success show False)
                      | (refine pickL hX (t := true) (by rfl) rfl ?_; cbv)
                      | (refine pickL hX (t := false) (by rfl) rfl ?_; cbv)
                  replace i0 : 0 ≤ i := i0
                  replace hlt : i < (xs.length : Int) := hlt
                  replace hlt30 : i < 30 := hlt30
                  subst hR
                  refine ⟨(i + 1, none, L2), ⟨by show 0 ≤ i + 1; omega, by show i + 1 ≤ (xs.length : Int); omega, by show i + 1 ≤ 30; omega, hL2.trans hL1, ?_⟩, by show xs.length - (i + 1).toNat < xs.length - i.toNat; omega, ?_⟩
                  · show okD (i + 1).toNat _
                    rw [show (i + 1).toNat = i.toNat + 1 by omega]
                    exact hD2
                  · subst hA
                    exact told_less (by simp [toldP, getS, A0, wi])
                · cbv
                  have hF9 := isF_of hc2 hm2 ((hD2.mono (by omega) : okD 900 _).okL (by decide))
                  have hO9 := okD_of hc2 (hD2.mono (by omega) : okD 900 _)
                  obtain ⟨t3, ht8⟩ : ∃ t3, GFsK.tot c2 = t3 := ⟨_, rfl⟩
                  have ht9 : t3 = t1 - (d.length : Int) := by
                    rw [← ht7]
                    subst ht8 hFsK
                    show totX c2 = _
                    unfold totX
                    rw [hc2, rowF_cells]
                  have b9 : A.cmp .neq t3 (A.bin .sub .i64 t1 (A.len d)) = false := by
                    have hdl : (0 : Int) ≤ d.length ∧ (d.length : Int) ≤ t1 ∧ t1 ≤ 1048576 := hdb
                    subst hA
                    simp only [A0]
                    rw [wrap_i64 (by unfold r64; omega)]
                    simp [ht9]
                  cbv at ht8 b9
                  repeat first
                    | (simp only [f1, f2, f3, f4, f5, f6, f7, f8, f9, f10, ht8, b9]; cbv)
                    | refine And.intro (by
                         subst hA hX hW hFsQ hFsL hFsK hFsM hFsRu
                         clear hH hB
                         first
                           | exact trivial
                           | exact rfl
                           | (simp [A0]; done)
                           | (intro q; exact q)
                           | (intro q; simpa [A0] using q)
                           | (intro _; trivial)
                           | (show Region.lexB _ _ = true; kernel_rfl)
                           | (show turnsB _ = true; kernel_rfl)
                           | assumption) ?_
                    | ((with_reducible refine callB hX hB ?_); cbv; fail_if_success show False)
                      | (refine pickL hX (t := true) (by rfl) rfl ?_; cbv)
                      | (refine pickL hX (t := false) (by rfl) rfl ?_; cbv)
                  replace i0 : 0 ≤ i := i0
                  replace hlt : i < (xs.length : Int) := hlt
                  replace hlt30 : i < 30 := hlt30
                  subst hR
                  refine ⟨(i + 1, some (v2, n2, c2), L2), ⟨by show 0 ≤ i + 1; omega, by show i + 1 ≤ (xs.length : Int); omega, by show i + 1 ≤ 30; omega, ⟨hc2, hm2⟩, ?_⟩, by show xs.length - (i + 1).toNat < xs.length - i.toNat; omega, ?_⟩
                  · show okD (i + 1).toNat _
                    rw [show (i + 1).toNat = i.toNat + 1 by omega]
                    exact hD2
                  · subst hA
                    exact told_less (by simp [toldP, getS, A0, wi])
              · rw [hL1] at hf2
                cases hf2
            · cbv
              replace i0 : 0 ≤ i := i0
              replace hlt : i < (xs.length : Int) := hlt
              replace hlt30 : i < 30 := hlt30
              subst hR
              refine ⟨(i + 1, none, L1), ⟨by show 0 ≤ i + 1; omega, by show i + 1 ≤ (xs.length : Int); omega, by show i + 1 ≤ 30; omega, hL1, ?_⟩, by show xs.length - (i + 1).toNat < xs.length - i.toNat; omega, ?_⟩
              · show okD (i + 1).toNat _
                rw [show (i + 1).toNat = i.toNat + 1 by omega]
                exact hD1
              · subst hA
                exact told_less (by simp [toldP, getS, A0, wi])
        · rw [← hL1] at hc1 hm1
          cbv
          have hD8 : okD 900 ⟨n, L1, false, false, 0⟩ := hD1.mono (by omega)
          have hF8 := isF_of hc1 hm1 (hD8.okL (by decide))
          have hO8 := okD_of hc1 hD8
          obtain ⟨t1, ht2⟩ : ∃ t1, GFsK.tot c1 = t1 := ⟨_, rfl⟩
          have ht3 : t1 = t := by
            rw [← htt]
            subst ht2 hFsK
            show totX c1 = _
            unfold totX
            rw [hc1, rowF_cells]
          obtain ⟨r1, hr1⟩ : ∃ r1, GFsM.room c1 n = r1 := ⟨_, rfl⟩
          have hr2 : r1 = n - t1 := by
            subst hr1 ht2 hFsM hFsK
            rfl
          cbv at ht2 hr1
          replace ht3 : t1 = (t : Int) := ht3
          replace hcap : ¬ t + (p.length : Int) ≤ n := hcap
          have b1 : A.cmp .eql 7 0 = false := by subst hA; rfl
          have b2 : A.cmp .leq (A.bin .add .i64 t (A.len p)) n = false := by
            subst hA
            simp only [A0, decide_eq_false_iff_not]
            rw [wrap_i64 (by unfold r64; omega)]
            exact hcap
          have b6 : A.cmp .neq t1 t = false := by subst hA; simp [A0, ht3]
          have b7 : A.cmp .gtr t1 n = false := by subst hA; simp only [A0, decide_eq_false_iff_not]; omega
          have b8 : A.cmp .neq r1 (A.bin .sub .i64 n t1) = false := by
            subst hA
            simp only [A0]
            rw [wrap_i64 (by unfold r64; omega)]
            simp [hr2]
          cbv at b1 b2 b6 b7 b8
          refine stepTo (T := fun _ => tabY [40] []) (H := fun _ => [kn_within3 GFsQ, kn_runs GFsRu]) (tabY_ok _ _) hH follows_mixed hA hX [(1, .d (.slc 1 xs)), (5, .d (.sc (.int .i64 n))), (6, .ref 0 0 0), (8, .d (.sc (.int .i64 i))), (10, .d (.sc (.int .i64 t))), (11, .d (.sc (.string nm))), (96, .d (.sc (.bool false)))] [dB n (.view 3 1 v1 0 n1) false false 0, fB c1 v1] (fun R2 hR2 => ?_) ?_
          · show genG _ _ _ _ _ _ _ _ _ _
            repeat
              (refine genS (fun G hG => ?_)
               cbv
               repeat first
                 | (simp only [f1, f2, f3, f4, f5, f6, f7, f8, f9, f10, ht2, hr1, b1, b2, b6, b7, b8]; cbv)
                 | refine And.intro (by
                      subst hA hX hW hFsQ hFsL hFsK hFsM hFsRu
                      clear hH hB
                      first
                        | exact trivial
                        | exact rfl
                        | (simp [A0]; done)
                        | (intro q; exact q)
                        | (intro q; simpa [A0] using q)
                        | (intro _; trivial)
                        | (show Region.lexB _ _ = true; kernel_rfl)
                        | (show turnsB _ = true; kernel_rfl)
                        | assumption) ?_
                 | ((with_reducible refine callB hX hB ?_); cbv; fail_if_success show False)
                 | (refine pickL hX (t := true) (by rfl) rfl ?_; cbv)
                 | (refine pickL hX (t := false) (by rfl) rfl ?_; cbv)
               subst hG)
            cbv
            clear hH hB hX
            subst hR2
            exact told_less (by simp [toldP, getS])
          · cbv
            have wi : IntKind.wrap .i64 (i + 1) = i + 1 := wrap_i64 (by unfold r64; omega)
            refine And.intro (by subst hA; exact (by decide : (5 : Int) ≠ 0)) ?_
            refine part (fun h5 => ?_) (fun h5 => ?_)
            · cbv
              obtain ⟨d, hd⟩ : ∃ d, GFsL.rd c1 nm = d := ⟨_, rfl⟩
              obtain ⟨fb, hfb⟩ : ∃ b, (GFsL.find c1 nm).2 = b := ⟨_, rfl⟩
              have hrw : rowF c1 = L1 := by rw [hc1, rowF_cells]
              have hd2 : (Dk.mk 0 L1 false false 0).reads nm = d := by
                rw [← hd]
                subst hFsL
                show _ = readsX c1 nm
                unfold readsX
                rw [hrw]
              have hf2 : (findF nm L1 0).2 = fb := by
                rw [← hfb]
                subst hFsL
                show _ = (findX c1 nm).2
                unfold findX
                rw [hrw]
              cbv at hd hfb
              repeat first
                | (simp only [f1, f2, f3, f4, f5, f6, f7, f8, f9, f10, hd, hfb, ht2]; cbv)
                | refine And.intro (by
                     subst hA hX hW hFsQ hFsL hFsK hFsM hFsRu
                     clear hH hB
                     first
                       | exact trivial
                       | exact rfl
                       | (simp [A0]; done)
                       | (intro q; exact q)
                       | (intro q; simpa [A0] using q)
                       | (intro _; trivial)
                       | (show Region.lexB _ _ = true; kernel_rfl)
                       | (show turnsB _ = true; kernel_rfl)
                       | assumption) ?_
                | ((with_reducible refine callB hX hB ?_); cbv; fail_if_success show False)
              cases fb
              · obtain ⟨hrem, hrd⟩ := rem_no (q := n) hf2
                obtain ⟨L2, hL2⟩ : ∃ L2, L2 = L1 := ⟨_, rfl⟩
                have hd0 : d.length = 0 := by rw [← hd2, hrd]; rfl
                have ht7 : totF L2 = t1 - (d.length : Int) := by rw [hL2, hd0, htt, ht3]; simp
                have hD2 : okD (i.toNat + 1) ⟨n, L2, false, false, 0⟩ := by rw [hL2]; exact hD1
                have hrem : (Dk.mk n L1 false false 0).rem nm = (8, ⟨n, L2, false, false, 0⟩) := by rw [hL2]; exact hrem
                have hdb : (0 : Int) ≤ d.length ∧ (d.length : Int) ≤ t1 ∧ t1 ≤ 1048576 := by
                  have h1 := totF_nonneg L2
                  have h2 := hD8.tot
                  have h3 := hD8.q
                  simp only at h2 h3
                  have h4 : t1 = totF L1 := by rw [htt]; exact ht3
                  omega
                with_reducible refine goL (T := fun _ => tabY [40] []) (H := fun _ => [kn_within3 GFsQ, kn_runs GFsRu]) (tabY_ok _ _) hH follows_mixed hA hX ?_
                cbv
                refine callL hX (rem1 nm 0 1 L1 rfl rfl (by decide) hc1 hm1 hD8 hrem fun v2 n2 c2 hc2 hm2 => ?_)
                cbv
                have hF9 := isF_of hc2 hm2 ((hD2.mono (by omega) : okD 900 _).okL (by decide))
                have hO9 := okD_of hc2 (hD2.mono (by omega) : okD 900 _)
                obtain ⟨t3, ht8⟩ : ∃ t3, GFsK.tot c2 = t3 := ⟨_, rfl⟩
                have ht9 : t3 = t1 - (d.length : Int) := by
                  rw [← ht7]
                  subst ht8 hFsK
                  show totX c2 = _
                  unfold totX
                  rw [hc2, rowF_cells]
                have b9 : A.cmp .neq t3 (A.bin .sub .i64 t1 (A.len d)) = false := by
                  have hdl : (0 : Int) ≤ d.length ∧ (d.length : Int) ≤ t1 ∧ t1 ≤ 1048576 := hdb
                  subst hA
                  simp only [A0]
                  rw [wrap_i64 (by unfold r64; omega)]
                  simp [ht9]
                cbv at ht8 b9
                repeat first
                  | (simp only [f1, f2, f3, f4, f5, f6, f7, f8, f9, f10, ht8, b9]; cbv)
                  | refine And.intro (by
                       subst hA hX hW hFsQ hFsL hFsK hFsM hFsRu
                       clear hH hB
                       first
                         | exact trivial
                         | exact rfl
                         | (simp [A0]; done)
                         | (intro q; exact q)
                         | (intro q; simpa [A0] using q)
                         | (intro _; trivial)
                         | (show Region.lexB _ _ = true; kernel_rfl)
                         | (show turnsB _ = true; kernel_rfl)
                         | assumption) ?_
                  | ((with_reducible refine callB hX hB ?_); cbv; fail_if_success show False)
                    | (refine pickL hX (t := true) (by rfl) rfl ?_; cbv)
                    | (refine pickL hX (t := false) (by rfl) rfl ?_; cbv)
                replace i0 : 0 ≤ i := i0
                replace hlt : i < (xs.length : Int) := hlt
                replace hlt30 : i < 30 := hlt30
                subst hR
                refine ⟨(i + 1, some (v2, n2, c2), L2), ⟨by show 0 ≤ i + 1; omega, by show i + 1 ≤ (xs.length : Int); omega, by show i + 1 ≤ 30; omega, ⟨hc2, hm2⟩, ?_⟩, by show xs.length - (i + 1).toNat < xs.length - i.toNat; omega, ?_⟩
                · show okD (i + 1).toNat _
                  rw [show (i + 1).toNat = i.toNat + 1 by omega]
                  exact hD2
                · subst hA
                  exact told_less (by simp [toldP, getS, A0, wi])
              · obtain ⟨L2, d2, hrem, ht7, hrd⟩ := rem_yes (q := n) hf2
                have hdd : d2 = d := hrd.symm.trans hd2
                rw [hdd] at ht7
                have ht7 : totF L2 = t1 - (d.length : Int) := by rw [ht7, htt, ht3]
                have hD2 : okD (i.toNat + 1) ⟨n, L2, false, false, 0⟩ := by
                  have := hD1.rem nm
                  rw [hrem] at this
                  exact this
                have hdb : (0 : Int) ≤ d.length ∧ (d.length : Int) ≤ t1 ∧ t1 ≤ 1048576 := by
                  have h1 := totF_nonneg L2
                  have h2 := hD8.tot
                  have h3 := hD8.q
                  simp only at h2 h3
                  have h4 : t1 = totF L1 := by rw [htt]; exact ht3
                  omega
                with_reducible refine goL (T := fun _ => tabY [40] []) (H := fun _ => [kn_within3 GFsQ, kn_runs GFsRu]) (tabY_ok _ _) hH follows_mixed hA hX ?_
                cbv
                refine callL hX (rem1 nm 0 1 L1 rfl rfl (by decide) hc1 hm1 hD8 hrem fun v2 n2 c2 hc2 hm2 => ?_)
                cbv
                have hF9 := isF_of hc2 hm2 ((hD2.mono (by omega) : okD 900 _).okL (by decide))
                have hO9 := okD_of hc2 (hD2.mono (by omega) : okD 900 _)
                obtain ⟨t3, ht8⟩ : ∃ t3, GFsK.tot c2 = t3 := ⟨_, rfl⟩
                have ht9 : t3 = t1 - (d.length : Int) := by
                  rw [← ht7]
                  subst ht8 hFsK
                  show totX c2 = _
                  unfold totX
                  rw [hc2, rowF_cells]
                have b9 : A.cmp .neq t3 (A.bin .sub .i64 t1 (A.len d)) = false := by
                  have hdl : (0 : Int) ≤ d.length ∧ (d.length : Int) ≤ t1 ∧ t1 ≤ 1048576 := hdb
                  subst hA
                  simp only [A0]
                  rw [wrap_i64 (by unfold r64; omega)]
                  simp [ht9]
                cbv at ht8 b9
                repeat first
                  | (simp only [f1, f2, f3, f4, f5, f6, f7, f8, f9, f10, ht8, b9]; cbv)
                  | refine And.intro (by
                       subst hA hX hW hFsQ hFsL hFsK hFsM hFsRu
                       clear hH hB
                       first
                         | exact trivial
                         | exact rfl
                         | (simp [A0]; done)
                         | (intro q; exact q)
                         | (intro q; simpa [A0] using q)
                         | (intro _; trivial)
                         | (show Region.lexB _ _ = true; kernel_rfl)
                         | (show turnsB _ = true; kernel_rfl)
                         | assumption) ?_
                  | ((with_reducible refine callB hX hB ?_); cbv; fail_if_success show False)
                    | (refine pickL hX (t := true) (by rfl) rfl ?_; cbv)
                    | (refine pickL hX (t := false) (by rfl) rfl ?_; cbv)
                replace i0 : 0 ≤ i := i0
                replace hlt : i < (xs.length : Int) := hlt
                replace hlt30 : i < 30 := hlt30
                subst hR
                refine ⟨(i + 1, some (v2, n2, c2), L2), ⟨by show 0 ≤ i + 1; omega, by show i + 1 ≤ (xs.length : Int); omega, by show i + 1 ≤ 30; omega, ⟨hc2, hm2⟩, ?_⟩, by show xs.length - (i + 1).toNat < xs.length - i.toNat; omega, ?_⟩
                · show okD (i + 1).toNat _
                  rw [show (i + 1).toNat = i.toNat + 1 by omega]
                  exact hD2
                · subst hA
                  exact told_less (by simp [toldP, getS, A0, wi])
            · cbv
              replace i0 : 0 ≤ i := i0
              replace hlt : i < (xs.length : Int) := hlt
              replace hlt30 : i < 30 := hlt30
              subst hR
              refine ⟨(i + 1, some (v1, n1, c1), L1), ⟨by show 0 ≤ i + 1; omega, by show i + 1 ≤ (xs.length : Int); omega, by show i + 1 ≤ 30; omega, ⟨hc1, hm1⟩, ?_⟩, by show xs.length - (i + 1).toNat < xs.length - i.toNat; omega, ?_⟩
              · show okD (i + 1).toNat _
                rw [show (i + 1).toNat = i.toNat + 1 by omega]
                exact hD1
              · subst hA
                exact told_less (by simp [toldP, getS, A0, wi])
  · obtain ⟨hcs, hm⟩ : cs = cellsF L ∧ m = L.length := hfr
    have hisF : isF cs m := by rw [hcs, hm]; exact isF.mk (hD9.okL (by decide))
    have hO : okD 900 ⟨n, rowF cs, false, false, 0⟩ := by rw [hcs, rowF_cells]; exact hD9
    cbv
    apply cutL2 (X := X) (fun p : List (List PD) => isB p ∧ p.length ≤ 100 ∧ i < xs.length ∧ i < 30) (fun p => [(1, .d (.slc 1 xs)), (5, .d (.sc (.int .i64 n))), (6, .ref 0 0 0), (8, .d (.sc (.int .i64 i))), (9, .d (.slc 1 p))]) (fun _ => [dB n (.view 3 1 v 0 m) false false 0, fB cs v])
    rotate_left
    · intro key
      repeat' first
        | (refine part (fun h => ?_) (fun h => ?_) <;> try cbv)
        | (refine And.intro ?_ ?_)
      all_goals first
        | (subst hA hX hW hFsQ hFsL hFsK hFsM hFsRu; exact ret_v rfl rfl)
        | (intro q; exact q)
        | (intro _; trivial)
        | (subst hA; intro q; simpa [A0] using q)
        | (have h9 : A.cond (A.cmp .lss i (A.len xs)) (A.cmp .lss i 30) false = true := by assumption
           obtain ⟨hlt, hlt30⟩ : i < xs.length ∧ i < 30 := by
             subst hA
             simp only [A0, cond_eq_ite, decide_eq_true_eq, Bool.if_false_right, Bool.and_eq_true] at h9
             exact h9
           obtain ⟨p, hp0, hpb⟩ := hrow i i0 hlt
           have e : A.gl (A.lift (A.row xs i)) 0 = p := by subst hA; simp only [A0, hp0]; rfl
           first
             | (subst hA; exact ⟨i0, hlt⟩)
             | (subst hA; simp only [A0, hp0]; exact ⟨rfl, Nat.le_refl _, rfl⟩)
             | (have h8 : A.cmp .gtr (A.len (A.gl (A.lift (A.row xs i)) 0)) 100 = true := by assumption
                replace h8 : (100 : Int) < p.length := by
                  rw [e] at h8
                  subst hA
                  simp only [A0, decide_eq_true_eq] at h8
                  exact h8
                first
                  | (show A.bnd 0 100 (A.len (A.gl (A.lift (A.row xs i)) 0)); rw [e]; subst hA; exact (⟨by decide, by decide, by omega⟩ : (0 : Int) ≤ 0 ∧ (0 : Int) ≤ 100 ∧ (100 : Int) ≤ (p.length : Int)))
                  | (rw [e]; subst hA; simp only [A0]; show (100 : Int) ≤ (p.length : Int); omega)
                  | (refine pauseL hX (s' := _) (st' := _) ?_ (key (p.take 100) ⟨isB.take hpb _, by simp only [List.length_take]; omega, hlt, hlt30⟩)
                     subst hA
                     exact told_less (by simp [toldP, getS, e]; simp [A0])))
             | (have h8 : A.cmp .gtr (A.len (A.gl (A.lift (A.row xs i)) 0)) 100 = false := by assumption
                replace h8 : ¬ (100 : Int) < p.length := by
                  rw [e] at h8
                  subst hA
                  simp only [A0, decide_eq_false_iff_not] at h8
                  exact h8
                refine pauseL hX (s' := _) (st' := _) ?_ (key p ⟨hpb, by omega, hlt, hlt30⟩)
                exact told_less (by simp [toldP, getS, e])))
        | fail
    · rintro p ⟨hp, hp1, hlt, hlt30⟩
      obtain ⟨nm, hnm, hmay, hsz, hby⟩ := nm_ok i i0
      with_reducible refine goL (T := fun _ => tabY [40] []) (H := fun _ => [kn_within3 GFsQ, kn_runs GFsRu]) (tabY_ok _ _) hH follows_mixed hA hX ?_
      cbv
      obtain ⟨t, ht⟩ : ∃ t, GFsK.tot cs = t := ⟨_, rfl⟩
      have ht1 : t = totF L := by subst ht hFsK; show totX cs = _; unfold totX; rw [hcs, rowF_cells]
      have ht5 : 0 ≤ t ∧ t ≤ n := by
        have h1 := totF_nonneg L
        have h2 := hD9.tot
        simp only at h2
        omega
      cbv at ht
      repeat first
        | (simp only [f1, f2, f3, f4, f5, f6, f7, f8, f9, f10, ht]; cbv)
        | refine And.intro (by
             subst hA hX hW hFsQ hFsL hFsK hFsM hFsRu
             clear hH hB
             first
               | exact trivial
               | exact rfl
               | (simp [A0]; done)
               | (intro q; exact q)
               | (intro q; simpa [A0] using q)
               | (intro _; trivial)
               | (show Region.lexB _ _ = true; kernel_rfl)
               | (show turnsB _ = true; kernel_rfl)
               | assumption) ?_
        | ((with_reducible refine callB hX hB ?_); cbv; fail_if_success show False)
      (with_reducible refine settleL (T := fun _ => tabY [40] []) (H := fun _ => [kn_within3 GFsQ, kn_runs GFsRu]) (R := fun _ => []) (A := A) (tabY_ok _ _) hH noR_ok hA hX ?_)
      cbv
      repeat first
        | (simp only [f1, f2, f3, f4, f5, f6, f7, f8, f9, f10, ht]; cbv)
        | refine And.intro (by
             subst hA hX hW hFsQ hFsL hFsK hFsM hFsRu
             clear hH hB
             first
               | exact trivial
               | exact rfl
               | (simp [A0]; done)
               | (intro q; exact q)
               | (intro q; simpa [A0] using q)
               | (intro _; trivial)
               | (show Region.lexB _ _ = true; kernel_rfl)
               | (show turnsB _ = true; kernel_rfl)
               | assumption) ?_
        | ((with_reducible refine callB hX hB ?_); cbv; fail_if_success show False)
      try refine And.intro (by subst hA; exact hby) ?_
      refine pauseL hX (s' := [(1, .d (.slc 1 xs)), (5, .d (.sc (.int .i64 n))), (6, .ref 0 0 0), (8, .d (.sc (.int .i64 i))), (9, .d (.slc 1 p)), (10, .d (.sc (.int .i64 t))), (11, .d (.sc (.string nm)))]) (st' := _) (told_less (by subst hA hnm; simp [toldP, getS])) ?_
      with_reducible refine goL (T := fun _ => tabY [40] []) (H := fun _ => [kn_within3 GFsQ, kn_runs GFsRu]) (tabY_ok _ _) hH follows_mixed hA hX ?_
      cbv
      by_cases hcap : t + p.length ≤ n
      · have hcap2 : totF L + p.length ≤ n := by rw [← ht1]; exact hcap
        have hy := app_yes (q := n) (L := L) hmay hcap2
        have hD1 : okD (i.toNat + 1) ⟨n, addF L nm p, false, false, 0⟩ := by
          have := hD.app (name := nm) hp
          rw [hy] at this
          exact this
        have htt : totF (addF L nm p) = t + p.length := by rw [addF_tot, ht1]
        obtain ⟨L1, hL1⟩ : ∃ L1, L1 = addF L nm p := ⟨_, rfl⟩
        rw [← hL1] at hy hD1 htt
        refine callL hX (app1 nm p 0 1 L rfl rfl (by decide) hcs hm hD9 hsz hp hy fun v1 n1 c1 hc1 hm1 => ?_)
        cbv
        have hD8 : okD 900 ⟨n, L1, false, false, 0⟩ := hD1.mono (by omega)
        have hF8 := isF_of hc1 hm1 (hD8.okL (by decide))
        have hO8 := okD_of hc1 hD8
        obtain ⟨t1, ht2⟩ : ∃ t1, GFsK.tot c1 = t1 := ⟨_, rfl⟩
        have ht3 : t1 = t + p.length := by
          rw [← htt]
          subst ht2 hFsK
          show totX c1 = _
          unfold totX
          rw [hc1, rowF_cells]
        obtain ⟨r1, hr1⟩ : ∃ r1, GFsM.room c1 n = r1 := ⟨_, rfl⟩
        have hr2 : r1 = n - t1 := by
          subst hr1 ht2 hFsM hFsK
          rfl
        cbv at ht2 hr1
        replace ht3 : t1 = (t + (p.length : Int) : Int) := ht3
        replace hcap : t + (p.length : Int) ≤ n := hcap
        have b1 : A.cmp .eql 0 0 = true := by subst hA; rfl
        have b2 : A.cmp .leq (A.bin .add .i64 t (A.len p)) n = true := by
          subst hA
          simp only [A0, decide_eq_true_eq]
          rw [wrap_i64 (by unfold r64; omega)]
          exact hcap
        have b6 : A.cmp .leq t1 n = true := by subst hA; simp only [A0, decide_eq_true_eq]; omega
        have b7 : A.cmp .gtr t1 n = false := by subst hA; simp only [A0, decide_eq_false_iff_not]; omega
        have b8 : A.cmp .neq r1 (A.bin .sub .i64 n t1) = false := by
          subst hA
          simp only [A0]
          rw [wrap_i64 (by unfold r64; omega)]
          simp [hr2]
        cbv at b1 b2 b6 b7 b8
        refine stepTo (T := fun _ => tabY [40] []) (H := fun _ => [kn_within3 GFsQ, kn_runs GFsRu]) (tabY_ok _ _) hH follows_mixed hA hX [(1, .d (.slc 1 xs)), (5, .d (.sc (.int .i64 n))), (6, .ref 0 0 0), (8, .d (.sc (.int .i64 i))), (10, .d (.sc (.int .i64 t))), (11, .d (.sc (.string nm))), (96, .d (.sc (.bool false)))] [dB n (.view 3 1 v1 0 n1) false false 0, fB c1 v1] (fun R2 hR2 => ?_) ?_
        · show genG _ _ _ _ _ _ _ _ _ _
          repeat
            (refine genS (fun G hG => ?_)
             cbv
             repeat first
               | (simp only [f1, f2, f3, f4, f5, f6, f7, f8, f9, f10, ht2, hr1, b1, b2, b6, b7, b8]; cbv)
               | refine And.intro (by
                    subst hA hX hW hFsQ hFsL hFsK hFsM hFsRu
                    clear hH hB
                    first
                      | exact trivial
                      | exact rfl
                      | (simp [A0]; done)
                      | (intro q; exact q)
                      | (intro q; simpa [A0] using q)
                      | (intro _; trivial)
                      | (show Region.lexB _ _ = true; kernel_rfl)
                      | (show turnsB _ = true; kernel_rfl)
                      | assumption) ?_
               | ((with_reducible refine callB hX hB ?_); cbv; fail_if_success show False)
               | (refine pickL hX (t := true) (by rfl) rfl ?_; cbv)
               | (refine pickL hX (t := false) (by rfl) rfl ?_; cbv)
             subst hG)
          cbv
          clear hH hB hX
          subst hR2
          exact told_less (by simp [toldP, getS])
        · cbv
          have wi : IntKind.wrap .i64 (i + 1) = i + 1 := wrap_i64 (by unfold r64; omega)
          refine And.intro (by subst hA; exact (by decide : (5 : Int) ≠ 0)) ?_
          refine part (fun h5 => ?_) (fun h5 => ?_)
          · cbv
            obtain ⟨d, hd⟩ : ∃ d, GFsL.rd c1 nm = d := ⟨_, rfl⟩
            obtain ⟨fb, hfb⟩ : ∃ b, (GFsL.find c1 nm).2 = b := ⟨_, rfl⟩
            have hrw : rowF c1 = L1 := by rw [hc1, rowF_cells]
            have hd2 : (Dk.mk 0 L1 false false 0).reads nm = d := by
              rw [← hd]
              subst hFsL
              show _ = readsX c1 nm
              unfold readsX
              rw [hrw]
            have hf2 : (findF nm L1 0).2 = fb := by
              rw [← hfb]
              subst hFsL
              show _ = (findX c1 nm).2
              unfold findX
              rw [hrw]
            cbv at hd hfb
            repeat first
              | (simp only [f1, f2, f3, f4, f5, f6, f7, f8, f9, f10, hd, hfb, ht2]; cbv)
              | refine And.intro (by
                   subst hA hX hW hFsQ hFsL hFsK hFsM hFsRu
                   clear hH hB
                   first
                     | exact trivial
                     | exact rfl
                     | (simp [A0]; done)
                     | (intro q; exact q)
                     | (intro q; simpa [A0] using q)
                     | (intro _; trivial)
                     | (show Region.lexB _ _ = true; kernel_rfl)
                     | (show turnsB _ = true; kernel_rfl)
                     | assumption) ?_
              | ((with_reducible refine callB hX hB ?_); cbv; fail_if_success show False)
            cases fb
            · obtain ⟨hrem, hrd⟩ := rem_no (q := n) hf2
              obtain ⟨L2, hL2⟩ : ∃ L2, L2 = L1 := ⟨_, rfl⟩
              have hd0 : d.length = 0 := by rw [← hd2, hrd]; rfl
              have ht7 : totF L2 = t1 - (d.length : Int) := by rw [hL2, hd0, htt, ht3]; simp
              have hD2 : okD (i.toNat + 1) ⟨n, L2, false, false, 0⟩ := by rw [hL2]; exact hD1
              have hrem : (Dk.mk n L1 false false 0).rem nm = (8, ⟨n, L2, false, false, 0⟩) := by rw [hL2]; exact hrem
              have hdb : (0 : Int) ≤ d.length ∧ (d.length : Int) ≤ t1 ∧ t1 ≤ 1048576 := by
                have h1 := totF_nonneg L2
                have h2 := hD8.tot
                have h3 := hD8.q
                simp only at h2 h3
                have h4 : t1 = totF L1 := by rw [htt]; exact ht3
                omega
              with_reducible refine goL (T := fun _ => tabY [40] []) (H := fun _ => [kn_within3 GFsQ, kn_runs GFsRu]) (tabY_ok _ _) hH follows_mixed hA hX ?_
              cbv
              refine callL hX (rem1 nm 0 1 L1 rfl rfl (by decide) hc1 hm1 hD8 hrem fun v2 n2 c2 hc2 hm2 => ?_)
              cbv
              have hF9 := isF_of hc2 hm2 ((hD2.mono (by omega) : okD 900 _).okL (by decide))
              have hO9 := okD_of hc2 (hD2.mono (by omega) : okD 900 _)
              obtain ⟨t3, ht8⟩ : ∃ t3, GFsK.tot c2 = t3 := ⟨_, rfl⟩
              have ht9 : t3 = t1 - (d.length : Int) := by
                rw [← ht7]
                subst ht8 hFsK
                show totX c2 = _
                unfold totX
                rw [hc2, rowF_cells]
              have b9 : A.cmp .neq t3 (A.bin .sub .i64 t1 (A.len d)) = false := by
                have hdl : (0 : Int) ≤ d.length ∧ (d.length : Int) ≤ t1 ∧ t1 ≤ 1048576 := hdb
                subst hA
                simp only [A0]
                rw [wrap_i64 (by unfold r64; omega)]
                simp [ht9]
              cbv at ht8 b9
              repeat first
                | (simp only [f1, f2, f3, f4, f5, f6, f7, f8, f9, f10, ht8, b9]; cbv)
                | refine And.intro (by
                     subst hA hX hW hFsQ hFsL hFsK hFsM hFsRu
                     clear hH hB
                     first
                       | exact trivial
                       | exact rfl
                       | (simp [A0]; done)
                       | (intro q; exact q)
                       | (intro q; simpa [A0] using q)
                       | (intro _; trivial)
                       | (show Region.lexB _ _ = true; kernel_rfl)
                       | (show turnsB _ = true; kernel_rfl)
                       | assumption) ?_
                | ((with_reducible refine callB hX hB ?_); cbv; fail_if_success show False)
                  | (refine pickL hX (t := true) (by rfl) rfl ?_; cbv)
                  | (refine pickL hX (t := false) (by rfl) rfl ?_; cbv)
              replace i0 : 0 ≤ i := i0
              replace hlt : i < (xs.length : Int) := hlt
              replace hlt30 : i < 30 := hlt30
              subst hR
              refine ⟨(i + 1, some (v2, n2, c2), L2), ⟨by show 0 ≤ i + 1; omega, by show i + 1 ≤ (xs.length : Int); omega, by show i + 1 ≤ 30; omega, ⟨hc2, hm2⟩, ?_⟩, by show xs.length - (i + 1).toNat < xs.length - i.toNat; omega, ?_⟩
              · show okD (i + 1).toNat _
                rw [show (i + 1).toNat = i.toNat + 1 by omega]
                exact hD2
              · subst hA
                exact told_less (by simp [toldP, getS, A0, wi])
            · obtain ⟨L2, d2, hrem, ht7, hrd⟩ := rem_yes (q := n) hf2
              have hdd : d2 = d := hrd.symm.trans hd2
              rw [hdd] at ht7
              have ht7 : totF L2 = t1 - (d.length : Int) := by rw [ht7, htt, ht3]
              have hD2 : okD (i.toNat + 1) ⟨n, L2, false, false, 0⟩ := by
                have := hD1.rem nm
                rw [hrem] at this
                exact this
              have hdb : (0 : Int) ≤ d.length ∧ (d.length : Int) ≤ t1 ∧ t1 ≤ 1048576 := by
                have h1 := totF_nonneg L2
                have h2 := hD8.tot
                have h3 := hD8.q
                simp only at h2 h3
                have h4 : t1 = totF L1 := by rw [htt]; exact ht3
                omega
              with_reducible refine goL (T := fun _ => tabY [40] []) (H := fun _ => [kn_within3 GFsQ, kn_runs GFsRu]) (tabY_ok _ _) hH follows_mixed hA hX ?_
              cbv
              refine callL hX (rem1 nm 0 1 L1 rfl rfl (by decide) hc1 hm1 hD8 hrem fun v2 n2 c2 hc2 hm2 => ?_)
              cbv
              have hF9 := isF_of hc2 hm2 ((hD2.mono (by omega) : okD 900 _).okL (by decide))
              have hO9 := okD_of hc2 (hD2.mono (by omega) : okD 900 _)
              obtain ⟨t3, ht8⟩ : ∃ t3, GFsK.tot c2 = t3 := ⟨_, rfl⟩
              have ht9 : t3 = t1 - (d.length : Int) := by
                rw [← ht7]
                subst ht8 hFsK
                show totX c2 = _
                unfold totX
                rw [hc2, rowF_cells]
              have b9 : A.cmp .neq t3 (A.bin .sub .i64 t1 (A.len d)) = false := by
                have hdl : (0 : Int) ≤ d.length ∧ (d.length : Int) ≤ t1 ∧ t1 ≤ 1048576 := hdb
                subst hA
                simp only [A0]
                rw [wrap_i64 (by unfold r64; omega)]
                simp [ht9]
              cbv at ht8 b9
              repeat first
                | (simp only [f1, f2, f3, f4, f5, f6, f7, f8, f9, f10, ht8, b9]; cbv)
                | refine And.intro (by
                     subst hA hX hW hFsQ hFsL hFsK hFsM hFsRu
                     clear hH hB
                     first
                       | exact trivial
                       | exact rfl
                       | (simp [A0]; done)
                       | (intro q; exact q)
                       | (intro q; simpa [A0] using q)
                       | (intro _; trivial)
                       | (show Region.lexB _ _ = true; kernel_rfl)
                       | (show turnsB _ = true; kernel_rfl)
                       | assumption) ?_
                | ((with_reducible refine callB hX hB ?_); cbv; fail_if_success show False)
                  | (refine pickL hX (t := true) (by rfl) rfl ?_; cbv)
                  | (refine pickL hX (t := false) (by rfl) rfl ?_; cbv)
              replace i0 : 0 ≤ i := i0
              replace hlt : i < (xs.length : Int) := hlt
              replace hlt30 : i < 30 := hlt30
              subst hR
              refine ⟨(i + 1, some (v2, n2, c2), L2), ⟨by show 0 ≤ i + 1; omega, by show i + 1 ≤ (xs.length : Int); omega, by show i + 1 ≤ 30; omega, ⟨hc2, hm2⟩, ?_⟩, by show xs.length - (i + 1).toNat < xs.length - i.toNat; omega, ?_⟩
              · show okD (i + 1).toNat _
                rw [show (i + 1).toNat = i.toNat + 1 by omega]
                exact hD2
              · subst hA
                exact told_less (by simp [toldP, getS, A0, wi])
          · cbv
            replace i0 : 0 ≤ i := i0
            replace hlt : i < (xs.length : Int) := hlt
            replace hlt30 : i < 30 := hlt30
            subst hR
            refine ⟨(i + 1, some (v1, n1, c1), L1), ⟨by show 0 ≤ i + 1; omega, by show i + 1 ≤ (xs.length : Int); omega, by show i + 1 ≤ 30; omega, ⟨hc1, hm1⟩, ?_⟩, by show xs.length - (i + 1).toNat < xs.length - i.toNat; omega, ?_⟩
            · show okD (i + 1).toNat _
              rw [show (i + 1).toNat = i.toNat + 1 by omega]
              exact hD1
            · subst hA
              exact told_less (by simp [toldP, getS, A0, wi])
      · have hy := app_no (q := n) (L := L) (nm := nm) (p := p) hmay (by rw [← ht1]; exact hcap)
        have hD1 : okD (i.toNat + 1) ⟨n, L, false, false, 0⟩ := hD.mono (Nat.le_succ _)
        have htt : totF L = t := by rw [ht1]
        obtain ⟨L1, hL1⟩ : ∃ L1, L1 = L := ⟨_, rfl⟩
        rw [← hL1] at hD1 htt
        refine callL hX (app1 nm p 0 1 L rfl rfl (by decide) hcs hm hD9 hsz hp hy fun v1 n1 c1 hc1 hm1 => ?_)
        rw [← hL1] at hc1 hm1
        cbv
        have hD8 : okD 900 ⟨n, L1, false, false, 0⟩ := hD1.mono (by omega)
        have hF8 := isF_of hc1 hm1 (hD8.okL (by decide))
        have hO8 := okD_of hc1 hD8
        obtain ⟨t1, ht2⟩ : ∃ t1, GFsK.tot c1 = t1 := ⟨_, rfl⟩
        have ht3 : t1 = t := by
          rw [← htt]
          subst ht2 hFsK
          show totX c1 = _
          unfold totX
          rw [hc1, rowF_cells]
        obtain ⟨r1, hr1⟩ : ∃ r1, GFsM.room c1 n = r1 := ⟨_, rfl⟩
        have hr2 : r1 = n - t1 := by
          subst hr1 ht2 hFsM hFsK
          rfl
        cbv at ht2 hr1
        replace ht3 : t1 = (t : Int) := ht3
        replace hcap : ¬ t + (p.length : Int) ≤ n := hcap
        have b1 : A.cmp .eql 7 0 = false := by subst hA; rfl
        have b2 : A.cmp .leq (A.bin .add .i64 t (A.len p)) n = false := by
          subst hA
          simp only [A0, decide_eq_false_iff_not]
          rw [wrap_i64 (by unfold r64; omega)]
          exact hcap
        have b6 : A.cmp .neq t1 t = false := by subst hA; simp [A0, ht3]
        have b7 : A.cmp .gtr t1 n = false := by subst hA; simp only [A0, decide_eq_false_iff_not]; omega
        have b8 : A.cmp .neq r1 (A.bin .sub .i64 n t1) = false := by
          subst hA
          simp only [A0]
          rw [wrap_i64 (by unfold r64; omega)]
          simp [hr2]
        cbv at b1 b2 b6 b7 b8
        refine stepTo (T := fun _ => tabY [40] []) (H := fun _ => [kn_within3 GFsQ, kn_runs GFsRu]) (tabY_ok _ _) hH follows_mixed hA hX [(1, .d (.slc 1 xs)), (5, .d (.sc (.int .i64 n))), (6, .ref 0 0 0), (8, .d (.sc (.int .i64 i))), (10, .d (.sc (.int .i64 t))), (11, .d (.sc (.string nm))), (96, .d (.sc (.bool false)))] [dB n (.view 3 1 v1 0 n1) false false 0, fB c1 v1] (fun R2 hR2 => ?_) ?_
        · show genG _ _ _ _ _ _ _ _ _ _
          repeat
            (refine genS (fun G hG => ?_)
             cbv
             repeat first
               | (simp only [f1, f2, f3, f4, f5, f6, f7, f8, f9, f10, ht2, hr1, b1, b2, b6, b7, b8]; cbv)
               | refine And.intro (by
                    subst hA hX hW hFsQ hFsL hFsK hFsM hFsRu
                    clear hH hB
                    first
                      | exact trivial
                      | exact rfl
                      | (simp [A0]; done)
                      | (intro q; exact q)
                      | (intro q; simpa [A0] using q)
                      | (intro _; trivial)
                      | (show Region.lexB _ _ = true; kernel_rfl)
                      | (show turnsB _ = true; kernel_rfl)
                      | assumption) ?_
               | ((with_reducible refine callB hX hB ?_); cbv; fail_if_success show False)
               | (refine pickL hX (t := true) (by rfl) rfl ?_; cbv)
               | (refine pickL hX (t := false) (by rfl) rfl ?_; cbv)
             subst hG)
          cbv
          clear hH hB hX
          subst hR2
          exact told_less (by simp [toldP, getS])
        · cbv
          have wi : IntKind.wrap .i64 (i + 1) = i + 1 := wrap_i64 (by unfold r64; omega)
          refine And.intro (by subst hA; exact (by decide : (5 : Int) ≠ 0)) ?_
          refine part (fun h5 => ?_) (fun h5 => ?_)
          · cbv
            obtain ⟨d, hd⟩ : ∃ d, GFsL.rd c1 nm = d := ⟨_, rfl⟩
            obtain ⟨fb, hfb⟩ : ∃ b, (GFsL.find c1 nm).2 = b := ⟨_, rfl⟩
            have hrw : rowF c1 = L1 := by rw [hc1, rowF_cells]
            have hd2 : (Dk.mk 0 L1 false false 0).reads nm = d := by
              rw [← hd]
              subst hFsL
              show _ = readsX c1 nm
              unfold readsX
              rw [hrw]
            have hf2 : (findF nm L1 0).2 = fb := by
              rw [← hfb]
              subst hFsL
              show _ = (findX c1 nm).2
              unfold findX
              rw [hrw]
            cbv at hd hfb
            repeat first
              | (simp only [f1, f2, f3, f4, f5, f6, f7, f8, f9, f10, hd, hfb, ht2]; cbv)
              | refine And.intro (by
                   subst hA hX hW hFsQ hFsL hFsK hFsM hFsRu
                   clear hH hB
                   first
                     | exact trivial
                     | exact rfl
                     | (simp [A0]; done)
                     | (intro q; exact q)
                     | (intro q; simpa [A0] using q)
                     | (intro _; trivial)
                     | (show Region.lexB _ _ = true; kernel_rfl)
                     | (show turnsB _ = true; kernel_rfl)
                     | assumption) ?_
              | ((with_reducible refine callB hX hB ?_); cbv; fail_if_success show False)
            cases fb
            · obtain ⟨hrem, hrd⟩ := rem_no (q := n) hf2
              obtain ⟨L2, hL2⟩ : ∃ L2, L2 = L1 := ⟨_, rfl⟩
              have hd0 : d.length = 0 := by rw [← hd2, hrd]; rfl
              have ht7 : totF L2 = t1 - (d.length : Int) := by rw [hL2, hd0, htt, ht3]; simp
              have hD2 : okD (i.toNat + 1) ⟨n, L2, false, false, 0⟩ := by rw [hL2]; exact hD1
              have hrem : (Dk.mk n L1 false false 0).rem nm = (8, ⟨n, L2, false, false, 0⟩) := by rw [hL2]; exact hrem
              have hdb : (0 : Int) ≤ d.length ∧ (d.length : Int) ≤ t1 ∧ t1 ≤ 1048576 := by
                have h1 := totF_nonneg L2
                have h2 := hD8.tot
                have h3 := hD8.q
                simp only at h2 h3
                have h4 : t1 = totF L1 := by rw [htt]; exact ht3
                omega
              with_reducible refine goL (T := fun _ => tabY [40] []) (H := fun _ => [kn_within3 GFsQ, kn_runs GFsRu]) (tabY_ok _ _) hH follows_mixed hA hX ?_
              cbv
              refine callL hX (rem1 nm 0 1 L1 rfl rfl (by decide) hc1 hm1 hD8 hrem fun v2 n2 c2 hc2 hm2 => ?_)
              cbv
              have hF9 := isF_of hc2 hm2 ((hD2.mono (by omega) : okD 900 _).okL (by decide))
              have hO9 := okD_of hc2 (hD2.mono (by omega) : okD 900 _)
              obtain ⟨t3, ht8⟩ : ∃ t3, GFsK.tot c2 = t3 := ⟨_, rfl⟩
              have ht9 : t3 = t1 - (d.length : Int) := by
                rw [← ht7]
                subst ht8 hFsK
                show totX c2 = _
                unfold totX
                rw [hc2, rowF_cells]
              have b9 : A.cmp .neq t3 (A.bin .sub .i64 t1 (A.len d)) = false := by
                have hdl : (0 : Int) ≤ d.length ∧ (d.length : Int) ≤ t1 ∧ t1 ≤ 1048576 := hdb
                subst hA
                simp only [A0]
                rw [wrap_i64 (by unfold r64; omega)]
                simp [ht9]
              cbv at ht8 b9
              repeat first
                | (simp only [f1, f2, f3, f4, f5, f6, f7, f8, f9, f10, ht8, b9]; cbv)
                | refine And.intro (by
                     subst hA hX hW hFsQ hFsL hFsK hFsM hFsRu
                     clear hH hB
                     first
                       | exact trivial
                       | exact rfl
                       | (simp [A0]; done)
                       | (intro q; exact q)
                       | (intro q; simpa [A0] using q)
                       | (intro _; trivial)
                       | (show Region.lexB _ _ = true; kernel_rfl)
                       | (show turnsB _ = true; kernel_rfl)
                       | assumption) ?_
                | ((with_reducible refine callB hX hB ?_); cbv; fail_if_success show False)
                  | (refine pickL hX (t := true) (by rfl) rfl ?_; cbv)
                  | (refine pickL hX (t := false) (by rfl) rfl ?_; cbv)
              replace i0 : 0 ≤ i := i0
              replace hlt : i < (xs.length : Int) := hlt
              replace hlt30 : i < 30 := hlt30
              subst hR
              refine ⟨(i + 1, some (v2, n2, c2), L2), ⟨by show 0 ≤ i + 1; omega, by show i + 1 ≤ (xs.length : Int); omega, by show i + 1 ≤ 30; omega, ⟨hc2, hm2⟩, ?_⟩, by show xs.length - (i + 1).toNat < xs.length - i.toNat; omega, ?_⟩
              · show okD (i + 1).toNat _
                rw [show (i + 1).toNat = i.toNat + 1 by omega]
                exact hD2
              · subst hA
                exact told_less (by simp [toldP, getS, A0, wi])
            · obtain ⟨L2, d2, hrem, ht7, hrd⟩ := rem_yes (q := n) hf2
              have hdd : d2 = d := hrd.symm.trans hd2
              rw [hdd] at ht7
              have ht7 : totF L2 = t1 - (d.length : Int) := by rw [ht7, htt, ht3]
              have hD2 : okD (i.toNat + 1) ⟨n, L2, false, false, 0⟩ := by
                have := hD1.rem nm
                rw [hrem] at this
                exact this
              have hdb : (0 : Int) ≤ d.length ∧ (d.length : Int) ≤ t1 ∧ t1 ≤ 1048576 := by
                have h1 := totF_nonneg L2
                have h2 := hD8.tot
                have h3 := hD8.q
                simp only at h2 h3
                have h4 : t1 = totF L1 := by rw [htt]; exact ht3
                omega
              with_reducible refine goL (T := fun _ => tabY [40] []) (H := fun _ => [kn_within3 GFsQ, kn_runs GFsRu]) (tabY_ok _ _) hH follows_mixed hA hX ?_
              cbv
              refine callL hX (rem1 nm 0 1 L1 rfl rfl (by decide) hc1 hm1 hD8 hrem fun v2 n2 c2 hc2 hm2 => ?_)
              cbv
              have hF9 := isF_of hc2 hm2 ((hD2.mono (by omega) : okD 900 _).okL (by decide))
              have hO9 := okD_of hc2 (hD2.mono (by omega) : okD 900 _)
              obtain ⟨t3, ht8⟩ : ∃ t3, GFsK.tot c2 = t3 := ⟨_, rfl⟩
              have ht9 : t3 = t1 - (d.length : Int) := by
                rw [← ht7]
                subst ht8 hFsK
                show totX c2 = _
                unfold totX
                rw [hc2, rowF_cells]
              have b9 : A.cmp .neq t3 (A.bin .sub .i64 t1 (A.len d)) = false := by
                have hdl : (0 : Int) ≤ d.length ∧ (d.length : Int) ≤ t1 ∧ t1 ≤ 1048576 := hdb
                subst hA
                simp only [A0]
                rw [wrap_i64 (by unfold r64; omega)]
                simp [ht9]
              cbv at ht8 b9
              repeat first
                | (simp only [f1, f2, f3, f4, f5, f6, f7, f8, f9, f10, ht8, b9]; cbv)
                | refine And.intro (by
                     subst hA hX hW hFsQ hFsL hFsK hFsM hFsRu
                     clear hH hB
                     first
                       | exact trivial
                       | exact rfl
                       | (simp [A0]; done)
                       | (intro q; exact q)
                       | (intro q; simpa [A0] using q)
                       | (intro _; trivial)
                       | (show Region.lexB _ _ = true; kernel_rfl)
                       | (show turnsB _ = true; kernel_rfl)
                       | assumption) ?_
                | ((with_reducible refine callB hX hB ?_); cbv; fail_if_success show False)
                  | (refine pickL hX (t := true) (by rfl) rfl ?_; cbv)
                  | (refine pickL hX (t := false) (by rfl) rfl ?_; cbv)
              replace i0 : 0 ≤ i := i0
              replace hlt : i < (xs.length : Int) := hlt
              replace hlt30 : i < 30 := hlt30
              subst hR
              refine ⟨(i + 1, some (v2, n2, c2), L2), ⟨by show 0 ≤ i + 1; omega, by show i + 1 ≤ (xs.length : Int); omega, by show i + 1 ≤ 30; omega, ⟨hc2, hm2⟩, ?_⟩, by show xs.length - (i + 1).toNat < xs.length - i.toNat; omega, ?_⟩
              · show okD (i + 1).toNat _
                rw [show (i + 1).toNat = i.toNat + 1 by omega]
                exact hD2
              · subst hA
                exact told_less (by simp [toldP, getS, A0, wi])
          · cbv
            replace i0 : 0 ≤ i := i0
            replace hlt : i < (xs.length : Int) := hlt
            replace hlt30 : i < 30 := hlt30
            subst hR
            refine ⟨(i + 1, some (v1, n1, c1), L1), ⟨by show 0 ≤ i + 1; omega, by show i + 1 ≤ (xs.length : Int); omega, by show i + 1 ≤ 30; omega, ⟨hc1, hm1⟩, ?_⟩, by show xs.length - (i + 1).toNat < xs.length - i.toNat; omega, ?_⟩
            · show okD (i + 1).toNat _
              rw [show (i + 1).toNat = i.toNat + 1 by omega]
              exact hD1
            · subst hA
              exact told_less (by simp [toldP, getS, A0, wi])

end Go.Proofs.Ytmjmbfcfnhnpmaa
