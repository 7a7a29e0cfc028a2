/- Histories: the program's Ops, walked. No condition. -/
import Derived.Test.YtadnpgkddgbhkaaZX24
import Derived.Test.YtadnpgkddgbhkaaZX18
namespace Go.Proofs.Ytadnpgkddgbhkaa
open Go.RowKit Go.Maps
set_option linter.all false
set_option maxHeartbeats 8000000
theorem upl_app : ∀ {a b c d : List DV}, UpL a b → UpL c d → UpL (a ++ c) (b ++ d)
 | [], b, c, d, h, g => by have e : b = [] := h; subst e; exact g
 | x :: a, b, c, d, ⟨y, bs, e, h1, h2⟩, g => by subst e; exact ⟨y, bs ++ d, rfl, h1, upl_app h2 g⟩
def newN (i : Int) (e : Ev) : List DV := [.d (.sc (.int .i64 i)), .d (.sc (.int .i64 (-1))), .d (.sc (.int .i64 e.c.kind)), .d (.sc (.int .i64 e.c.client)), .d (.sc (.int .i64 e.c.seq)), .d (.sc (.string e.c.key)), .d (.sc (.string e.c.fin)), .d (.sc (.string e.c.old)), .d (.sc (.string e.c.val)), .d (.sc (.int .i64 0)), .d (.sc (.bool false)), .d (.sc (.string none8)), .d (.sc (.int .i64 0)), .d (.sc (.slice none 0 0))]
theorem new_up (i : Int) (e : Ev) : UpL (newN i e) (evNew i e).cells := ⟨_, _, rfl, .inl rfl, _, _, rfl, .inl rfl, _, _, rfl, .inl rfl, _, _, rfl, .inl rfl, _, _, rfl, .inl rfl, _, _, rfl, .inl rfl, _, _, rfl, .inl rfl, _, _, rfl, .inl rfl, _, _, rfl, .inl rfl, _, _, rfl, .inl rfl, _, _, rfl, .inl rfl, _, _, rfl, .inl rfl, _, _, rfl, .inl rfl, _, _, rfl, .inr ⟨rfl, 3, rfl⟩, rfl⟩
def evsC (l : List Ev) : List DV := (l.map Ev.cells).flatten
theorem evB {xs : List (List PD)} {l : List Ev} (hxs : xs = evsX l) (h : isEv xs) : ∀ e ∈ l, r64 e.b := by
 obtain ⟨l2, e2, _, h2⟩ := h
 have : l = l2 := by rw [← evsOf_X l, ← evsOf_X l2, ← hxs, ← e2]
 subst this
 exact fun e he => (h2 e he).2.1
theorem evsC_app (l : List Ev) (e : Ev) : evsC (l ++ [e]) = evsC l ++ e.cells := by simp [evsC]
theorem evsC_len : ∀ l : List Ev, (evsC l).length = l.length * 14
 | [] => rfl
 | e :: l => by
     show (e.cells ++ evsC l).length = _
     rw [List.length_append, evsC_len l, List.length_cons]
     show 14 + _ = _
     omega
theorem evsC_row (l : List Ev) : ∀ (j : Nat) (h : j < l.length), (evsC l).drop (j * 14) = l[j].cells ++ evsC (l.drop (j + 1)) := by
 induction l with
 | nil => intro j h; cases h
 | cons e l ih =>
   intro j h
   cases j with
   | zero => rfl
   | succ j =>
     have h2 : j < l.length := by simpa using h
     have e1 : evsC (e :: l) = e.cells ++ evsC l := rfl
     have e2 : (e.cells ++ evsC l).drop (e.cells.length + j * 14) = (evsC l).drop (j * 14) := by
      rw [← List.drop_drop, List.drop_left]
     rw [e1, show (j + 1) * 14 = e.cells.length + j * 14 by show _ = 14 + _; omega, e2]
     exact ih j h2
theorem evsC_pull (κ : List Nat) (l : List Ev) : pullL κ (evsC l) = evsC l := by
 have h : evsC l = rowsD (evsX l) := by
  induction l with
  | nil => rfl
  | cons e l ih => show e.cells ++ evsC l = _; rw [ih]; rfl
 rw [h, pullL_eq]
 exact pull_rows κ _
theorem evsC_rows (l : List Ev) : evsC l = rowsD (evsX l) := by
 induction l with
 | nil => rfl
 | cons e l ih => show e.cells ++ evsC l = _; rw [ih]; rfl
theorem evsC_get {l : List Ev} {j : Nat} (h : j < l.length) (m : Nat) (hm : m < 14) : (evsC l)[j * 14 + m]? = l[j].cells[m]? := by
 rw [← List.getElem?_drop, evsC_row l j h, List.getElem?_append_left (by exact hm)]
theorem splice_mid (P M S xs : List DV) (m : Nat) (h : m + xs.length ≤ M.length) : splice (P ++ (M ++ S)) (P.length + m) xs = P ++ (splice M m xs ++ S) := by
 have h1 : (P ++ (M ++ S)).take (P.length + m) = P ++ M.take m := by
  rw [List.take_append, List.take_of_length_le (by omega), Nat.add_sub_cancel_left, List.take_append_of_le_length (by omega)]
 have h2 : (P ++ (M ++ S)).drop (P.length + m + xs.length) = M.drop (m + xs.length) ++ S := by
  rw [Nat.add_assoc, List.drop_append, List.drop_eq_nil_of_le (by omega), Nat.add_sub_cancel_left, List.drop_append_of_le_length (by omega), List.nil_append]
 simp only [splice, h1, h2, List.append_assoc]
theorem evsC_split {l : List Ev} {j : Nat} (h : j < l.length) : evsC l = evsC (l.take j) ++ (l[j].cells ++ evsC (l.drop (j + 1))) := by
 have e : l = l.take j ++ (l[j] :: l.drop (j + 1)) := by rw [← List.drop_eq_getElem_cons, List.take_append_drop]
 have e2 : ∀ a b : List Ev, evsC (a ++ b) = evsC a ++ evsC b := fun a b => by simp [evsC]
 conv => lhs; rw [e, e2]
 rfl
theorem evsC_set {l : List Ev} {j : Nat} (h : j < l.length) (e : Ev) : evsC (l.set j e) = evsC (l.take j) ++ (e.cells ++ evsC (l.drop (j + 1))) := by
 have e2 : ∀ a b : List Ev, evsC (a ++ b) = evsC a ++ evsC b := fun a b => by simp [evsC]
 rw [List.set_eq_take_append_cons_drop, if_pos h, e2]
 rfl
theorem cmd_eq (a b : Cmd) : (decide (a.kind = b.kind) && (decide (a.client = b.client) && (decide (a.seq = b.seq) && (decide (a.key = b.key) && (decide (a.fin = b.fin) && (decide (a.old = b.old) && (decide (a.val = b.val) && true))))))) = decide (a = b) := by
 cases a; cases b
 rw [Bool.eq_iff_iff]
 simp only [Bool.and_eq_true, decide_eq_true_eq, and_true, Cmd.mk.injEq]
def outV : Nat → Nat → Nat → DV
 | 0, _, _ => .d (.sc (.slice none 0 0))
 | n + 1, b, v => .view 14 b v 0 (n + 1)
def outB : Nat → List DV → Nat → Store
 | 0, _, _ => []
 | n + 1, dc, v => [⟨67, dc, true, v, true⟩]
theorem an_Hi90 {p q : Prop} (hq : q) (hp : p := by subst hA hX hFs5 hFsK; clear hH hB; first | exact trivial | exact rfl | assumption | (simp [A0]; done) | (intro q; simpa [A0] using q) | (intro _; trivial) | (show _ = true; kernel_rfl)) : p ∧ q := ⟨hp, hq⟩
set_option maxRecDepth 100000 in
theorem w_ops (xs : List (List PD)) (l : List Ev) (hxs : xs = evsX l) (hl : l.length ≤ 1048576) (hev : isEv xs) : FnD Try.prog 26 [.d (.slc 14 xs)] [] (fun r st' => st' = [] ∧ pureD r = true ∧ r = (match opsM l with | none => .tup [.d (.slc 14 []), .d (.sc (.bool false))] | some o => .tup [.d (.slc 14 (evsX o)), .d (.sc (.bool true))])) := by
 have hxl : xs.length = l.length := by rw [hxs, evsX_len]
 have hevp : ∀ e ∈ l, isP e.r.pairs := evP hxs hev
 have hevb : ∀ e ∈ l, r64 e.b := evB hxs hev
 obtain ⟨c, hc⟩ : ∃ c : Int, c = l.length := ⟨_, rfl⟩
 obtain ⟨GFs5, hFs5⟩ : ∃ F, F = Fs50 := ⟨_, rfl⟩
 obtain ⟨GFsK, hFsK⟩ : ∃ F, F = FsK0 := ⟨_, rfl⟩
 have hH : SoundK Try.prog [kn_cright GFs5, kn_clone GFsK] := by subst hFs5 hFsK; exact orK_ok ok_cright (orK_ok ok_clone noK_ok)
 have hB : SoundB Try.prog [] := by subst hFs5 hFsK; exact noB_ok
 refine FnD_M (T := fun _ => tabY [9, 16, 68, 69, 78, 79, 80, 84, 85, 86, 87, 88, 93, 94, 95] [2, 6, 13, 15, 20]) (H := fun _ => [kn_cright GFs5, kn_clone GFsK]) (tabY_ok _ _) hH follows_mixed 3 true Try.func26 rfl Try.ntmps26 (by simp) fun A X W Bs I Y hA hX hW hBl hBs hI hY => ?_
 cbv
 have q000 : A.cond false false false = false := by subst hA; rfl
 have q001 : A.cond false false true = true := by subst hA; rfl
 have q010 : A.cond false true false = false := by subst hA; rfl
 have q011 : A.cond false true true = true := by subst hA; rfl
 have q100 : A.cond true false false = false := by subst hA; rfl
 have q101 : A.cond true false true = false := by subst hA; rfl
 have q110 : A.cond true true false = true := by subst hA; rfl
 have q111 : A.cond true true true = true := by subst hA; rfl
 have f3 : A.not true = false := by subst hA; rfl
 have f4 : A.not false = true := by subst hA; rfl
 cbv at f3 f4 q000 q001 q010 q011 q100 q101 q110 q111
 have qq := And.intro q000 (And.intro q001 (And.intro q010 (And.intro q011 (And.intro q100 (And.intro q101 (And.intro q110 (And.intro q111 (And.intro f3 f4))))))))
 have hB0 : Bs.st.length = 0 := by rw [hBs]; rfl
 refine regMr (T := fun _ => tabY [9, 16, 68, 69, 78, 79, 80, 84, 85, 86, 87, 88, 93, 94, 95] []) (H := fun _ => [kn_cright GFs5, kn_clone GFsK]) (tabY_ok _ _) hH follows_mixed hBl hA hX hY keyI mapI zeroI [] fun C hC => ?_
 cbv
 refine ⟨by subst hC; rfl, by subst hC; exact hI, fun g => ?_⟩
 have hemp : C.emp = fun _ => none := by subst hC; rfl
 cbv at hemp
 simp only [hemp]
 clear hemp hC
 cbv
 refine loopM (T := fun _ => tabY [9, 16, 68, 69, 78, 79, 80, 84, 85, 86, 87, 88, 93, 94, 95] [2, 6, 13, 15, 20]) (H := fun _ => [kn_cright GFs5, kn_clone GFsK]) (tabY_ok _ _) hH follows_mixed hBl hA hX hY (fun x : Int × Nat × List DV × Nat × MapF => (0 ≤ x.1 ∧ x.1 ≤ c) ∧ ∃ out, x.2.1 = out.length ∧ x.2.2.1 = evsC out ∧ OpsOk x.1 out ∧ opnM out x.2.2.2.2 ∧ opsF l 0 [] = opsF (l.drop x.1.toNat) x.1 out) (fun x => [(0, .d (.slc 14 xs)), (4, outV x.2.1 0 x.2.2.2.1), (5, .d (.sc (.map (some g)))), (11, .d (.slc 14 xs)), (12, .d (.sc (.int .i64 c))), (13, .d (.sc (.int .i64 x.1)))]) (fun x => outB x.2.1 x.2.2.1 x.2.2.2.1) (fun x => some (g, x.2.2.2.2)) (fun x => c.toNat - x.1.toNat) (0, 0, [], 0, fun _ => none) ?_ ?_ rfl ?_
 ·replace hc : c = (l.length : Int) := hc
  exact ⟨⟨Int.le_refl 0, by show 0 ≤ c; omega⟩, [], rfl, rfl, OpsOk.nil, opnM.nil, rfl⟩
 ·subst hA
  refine told_less ?_
  replace hc : c = (l.length : Int) := hc
  simp [toldP, getS, A0, hc, hxl, outV]
 rintro R ⟨k, n, dc, v, G⟩ hR ⟨⟨k0, k1⟩, out, hn, hdc, hok, hG, hrun⟩
 replace k0 : 0 ≤ k := k0
 replace k1 : k ≤ c := k1
 replace hn : n = out.length := hn
 replace hdc : dc = evsC out := hdc
 replace hok : OpsOk k out := hok
 replace hG : opnM out G := hG
 replace hrun : opsF l 0 [] = opsF (l.drop k.toNat) k out := hrun
 by_cases hlt : k < c
 ·have t2 : A.cmp .lss k c = true := by subst hA; exact decide_eq_true hlt
  replace hc : c = (l.length : Int) := hc
  have hkl : k < (l.length : Int) := by omega
  obtain ⟨y, hy⟩ : ∃ y, y = l[k.toNat]'(by omega) := ⟨_, rfl⟩
  have hyr : xs.getD k.toNat [] = y.row := by rw [hy]; exact evrow hxs k0 hkl
  have hnk : A.nn k := by subst hA; exact k0
  have hinb : A.inb k (A.len xs) := by subst hA; exact ⟨k0, by show k < (xs.length : Int); omega⟩
  have hhas : A.has (A.lift (A.row xs k)) 0 14 [.d (.sc (.int .i64 (A.gi (A.lift (A.row xs k)) 0))), .d (.sc (.int .i64 (A.gi (A.lift (A.row xs k)) (A.pl 0 1)))), .d (.sc (.int .i64 (A.gi (A.lift (A.row xs k)) (A.pl 0 2)))), .d (.sc (.int .i64 (A.gi (A.lift (A.row xs k)) (A.pl 0 3)))), .d (.sc (.int .i64 (A.gi (A.lift (A.row xs k)) (A.pl 0 4)))), .d (.sc (.string (A.gs (A.lift (A.row xs k)) (A.pl 0 5)))), .d (.sc (.string (A.gs (A.lift (A.row xs k)) (A.pl 0 6)))), .d (.sc (.string (A.gs (A.lift (A.row xs k)) (A.pl 0 7)))), .d (.sc (.string (A.gs (A.lift (A.row xs k)) (A.pl 0 8)))), .d (.sc (.int .i64 (A.gi (A.lift (A.row xs k)) (A.pl 0 9)))), .d (.sc (.bool (A.gb (A.lift (A.row xs k)) (A.pl 0 10)))), .d (.sc (.string (A.gs (A.lift (A.row xs k)) (A.pl 0 11)))), .d (.sc (.int .i64 (A.gi (A.lift (A.row xs k)) (A.pl 0 12)))), .d (.slc 3 (A.gl (A.lift (A.row xs k)) (A.pl 0 13)))] := by subst hA; simp only [A0, hyr]; exact ⟨rfl, Nat.le_refl _, rfl⟩
  have e1 : A.gi (A.lift (A.row xs k)) (A.pl 0 1) = y.b := by subst hA; simp only [A0, hyr]; rfl
  have e1a : A.gi (A.lift (A.row xs k)) 0 = y.a := by subst hA; simp only [A0, hyr]; rfl
  rw [evdrop k0 hkl, ← hy] at hrun
  obtain ⟨ya, hya⟩ : ∃ z, z = y.a := ⟨_, rfl⟩
  obtain ⟨yb, hyb⟩ : ∃ z, z = y.b := ⟨_, rfl⟩
  rw [← hya] at e1a
  rw [← hyb] at e1
  cbv at t2 hnk hinb e1 e1a hhas
  simp only [e1, e1a] at hhas
  have hyx : y ∈ l := by rw [hy]; exact List.getElem_mem _
  obtain ⟨w2, hw2⟩ := key_int (n := yb) (by rw [hyb]; exact hevb y hyx)
  obtain ⟨lk, hlk⟩ : ∃ z, z = openX yb out + 1 := ⟨_, rfl⟩
  have hge := openX_ge yb out
  obtain ⟨a1, t3⟩ : ∃ t, A.cmp .eql ya 1 = t := ⟨_, rfl⟩
  have ha1 : a1 = decide (y.a = 1) := by rw [← t3, hya]; subst hA; rfl
  obtain ⟨a2, t4⟩ : ∃ t, A.cmp .eql ya 2 = t := ⟨_, rfl⟩
  have ha2 : a2 = decide (y.a = 2) := by rw [← t4, hya]; subst hA; rfl
  obtain ⟨g0, t5⟩ : ∃ t, A.cmp .gtr lk 0 = t := ⟨_, rfl⟩
  have hg0 : g0 = decide (lk > 0) := by rw [← t5]; subst hA; rfl
  obtain ⟨z0, t6⟩ : ∃ t, A.cmp .eql lk 0 = t := ⟨_, rfl⟩
  have hz0 : z0 = decide (lk = 0) := by rw [← t6]; subst hA; rfl
  obtain ⟨rc, t7⟩ : ∃ t, GFs5.cright ⟨A.gi (A.lift (A.row xs k)) (A.pl 0 2), A.gi (A.lift (A.row xs k)) (A.pl 0 3), A.gi (A.lift (A.row xs k)) (A.pl 0 4), A.gs (A.lift (A.row xs k)) (A.pl 0 5), A.gs (A.lift (A.row xs k)) (A.pl 0 6), A.gs (A.lift (A.row xs k)) (A.pl 0 7), A.gs (A.lift (A.row xs k)) (A.pl 0 8)⟩ = t := ⟨_, rfl⟩
  have hrc : rc = rightC y.c := by rw [← t7]; subst hA hFs5; simp only [A0, hyr]; rfl
  obtain ⟨kz, t8⟩ : ∃ t, A.cmp .eql (A.gi (A.lift (A.row xs k)) (A.pl 0 2)) 0 = t := ⟨_, rfl⟩
  have hkz : kz = decide (y.c.kind = 0) := by rw [← t8]; subst hA; simp only [A0, hyr]; rfl
  obtain ⟨nb, t9⟩ : ∃ t, A.cmp .neq (A.gi (A.lift (A.row xs k)) (A.pl 0 3)) yb = t := ⟨_, rfl⟩
  have hnb : nb = !decide (y.c.client = y.b) := by rw [← t9, hyb]; subst hA; simp only [A0, hyr]; rfl
  obtain ⟨eqb, heqb⟩ : ∃ t, t = decide ((out.getD (openX yb out).toNat default).c = y.c) := ⟨_, rfl⟩
  have hcall : evCall (openX y.b out) y = (!g0 && (a1 && (rc && (!kz && !nb)))) := by
   rw [← hyb]
   unfold evCall
   rw [ha1, hrc, hkz, hnb, hg0, Bool.not_not, hyb]
   congr 1
   by_cases h : openX y.b out < 0
   ·rw [decide_eq_true h, decide_eq_false (by rw [hlk, hyb]; omega)]; rfl
   ·rw [decide_eq_false h, decide_eq_true (by rw [hlk, hyb]; omega)]; rfl
  have hret : evRet (openX y.b out) y (out.getD (openX y.b out).toNat default) = (!z0 && (a2 && eqb)) := by
   rw [← hyb]
   unfold evRet
   rw [ha2, heqb, hz0]
   congr 1
   by_cases h : 0 ≤ openX yb out
   ·rw [decide_eq_true h, decide_eq_false (by rw [hlk]; omega)]; rfl
   ·rw [decide_eq_false h, decide_eq_true (by rw [hlk]; omega)]; rfl
  have h12 : a1 = true → a2 = false := by
   rw [ha1, ha2]
   intro h
   rw [decide_eq_true_eq] at h
   exact decide_eq_false (by omega)
  have hstep : ∀ {o}, evStep k out y = o → opsF l 0 [] = o.bind fun o => opsF (l.drop (k + 1).toNat) (k + 1) o := fun {o} h => by rw [hrun, opsF, h]
  have hG9 : ∀ C, C = GM0 Try.prog 93 3 true Bs I → C.look G (.int .i64 yb) = lk := fun C hC => by subst hC; rw [hlk]; exact hG yb
  cbv at t3 t4 t5 t6 t7 t8 t9
  rcases n with _ | n
  ·have ho0 : out = [] := List.eq_nil_of_length_eq_zero hn.symm
   have hlk0 : lk = 0 := by rw [hlk, ho0]; rfl
   cbv
   repeat first
    | (simp only [t2, e1, e1a, qq]; cbv)
    | refine an_Hi90 ?_
   refine regMr (T := fun _ => tabY [9, 16, 68, 69, 78, 79, 80, 84, 85, 86, 87, 88, 93, 94, 95] []) (H := fun _ => [kn_cright GFs5, kn_clone GFsK]) (tabY_ok _ _) hH follows_mixed hBl hA hX hY keyI mapI zeroI [] fun C hC => ?_
   have hlk9 := hG9 C hC
   cbv at hlk9
   cbv
   simp only [hlk9]
   repeat (refine And.intro (by subst hC hA; first | exact rfl | exact ⟨w2, hw2⟩ | exact trivial | (simp; done)) ?_)
   cbv
   repeat first
    | (simp only [t3, t4, e1, e1a, qq]; cbv)
    | refine an_Hi90 ?_
   cases a1
   case true =>
    cases g0
    case true =>
     cbv
     try (simp only [t2, t3, t4, t5, t6, t7, t8, t9, e1, e1a, qq]; cbv)
     repeat first
      | (simp only [t2, t3, t4, t5, t6, t7, t8, t9, e1, e1a, qq]; cbv)
      | refine an_Hi90 ?_
     subst hA hX hW
     try rw [h12 rfl] at hret
     have hno : opsM l = none := hstep (o := none) (by unfold evStep; rw [hcall, hret]; simp)
     rw [hno]
     exact ret_up ⟨_, rfl, _, _, rfl, .inr ⟨rfl, 14, rfl⟩, _, _, rfl, .inl rfl, rfl⟩ rfl
    case false =>
     cbv
     try (simp only [t2, t3, t4, t5, t6, t7, t8, t9, e1, e1a, qq]; cbv)
     repeat first
      | (simp only [t2, t3, t4, t5, t6, t7, t8, t9, e1, e1a, qq]; cbv)
      | refine an_Hi90 ?_
     cases rc
     case false =>
      cbv
      try (simp only [t2, t3, t4, t5, t6, t7, t8, t9, e1, e1a, qq]; cbv)
      repeat first
       | (simp only [t2, t3, t4, t5, t6, t7, t8, t9, e1, e1a, qq]; cbv)
       | refine an_Hi90 ?_
      subst hA hX hW
      try rw [h12 rfl] at hret
      have hno : opsM l = none := hstep (o := none) (by unfold evStep; rw [hcall, hret]; simp)
      rw [hno]
      exact ret_up ⟨_, rfl, _, _, rfl, .inr ⟨rfl, 14, rfl⟩, _, _, rfl, .inl rfl, rfl⟩ rfl
     case true =>
      cbv
      try (simp only [t2, t3, t4, t5, t6, t7, t8, t9, e1, e1a, qq]; cbv)
      repeat first
       | (simp only [t2, t3, t4, t5, t6, t7, t8, t9, e1, e1a, qq]; cbv)
       | refine an_Hi90 ?_
      cases kz
      case true =>
       cbv
       try (simp only [t2, t3, t4, t5, t6, t7, t8, t9, e1, e1a, qq]; cbv)
       repeat first
        | (simp only [t2, t3, t4, t5, t6, t7, t8, t9, e1, e1a, qq]; cbv)
        | refine an_Hi90 ?_
       subst hA hX hW
       try rw [h12 rfl] at hret
       have hno : opsM l = none := hstep (o := none) (by unfold evStep; rw [hcall, hret]; simp)
       rw [hno]
       exact ret_up ⟨_, rfl, _, _, rfl, .inr ⟨rfl, 14, rfl⟩, _, _, rfl, .inl rfl, rfl⟩ rfl
      case false =>
       cbv
       try (simp only [t2, t3, t4, t5, t6, t7, t8, t9, e1, e1a, qq]; cbv)
       repeat first
        | (simp only [t2, t3, t4, t5, t6, t7, t8, t9, e1, e1a, qq]; cbv)
        | refine an_Hi90 ?_
       cases nb
       case true =>
        cbv
        try (simp only [t2, t3, t4, t5, t6, t7, t8, t9, e1, e1a, qq]; cbv)
        repeat first
         | (simp only [t2, t3, t4, t5, t6, t7, t8, t9, e1, e1a, qq]; cbv)
         | refine an_Hi90 ?_
        subst hA hX hW
        try rw [h12 rfl] at hret
        have hno : opsM l = none := hstep (o := none) (by unfold evStep; rw [hcall, hret]; simp)
        rw [hno]
        exact ret_up ⟨_, rfl, _, _, rfl, .inr ⟨rfl, 14, rfl⟩, _, _, rfl, .inl rfl, rfl⟩ rfl
       case false =>
        cbv
        try (simp only [t2, t3, t4, t5, t6, t7, t8, t9, e1, e1a, qq]; cbv)
        repeat first
         | (simp only [t2, t3, t4, t5, t6, t7, t8, t9, e1, e1a, qq]; cbv)
         | refine an_Hi90 ?_
        refine regMr (T := fun _ => tabY [9, 16, 68, 69, 78, 79, 80, 84, 85, 86, 87, 88, 93, 94, 95] []) (H := fun _ => [kn_cright GFs5, kn_clone GFsK]) (tabY_ok _ _) hH follows_mixed hBl hA hX hY keyI mapI zeroI [] fun C2 hC2 => ?_
        cbv
        repeat (refine And.intro (by subst hC2 hA; first | exact rfl | exact ⟨w2, hw2⟩ | exact trivial | exact ⟨_, rfl⟩ | (simp; done)) ?_)
        cbv
        repeat first
         | (simp only [t2, t3, t4, t5, t6, t7, t8, t9, e1, e1a, qq]; cbv)
         | refine an_Hi90 ?_
        subst hyb hA hC2 hR
        rw [hB0]
        replace hc : c = (l.length : Int) := hc
        replace k0 : 0 ≤ k := k0
        replace hlt : k < c := hlt
        have wk : IntKind.wrap .i64 (k + 1) = k + 1 := wrap_i64 (by unfold r64; omega)
        have hstE : evStep k out y = some (out ++ [evNew k y]) := by unfold evStep; rw [hcall]; rfl
        have hcl : y.c.client = y.b := by simpa using hnb
        have hG2 := hG.call (i := k) hcl
        have hok2 := hok.step k0 (hevp y hyx) hstE
        have hrun2 := hstep hstE
        subst ho0
        refine ⟨(k + 1, 1, evsC ([] ++ [evNew k y]), 0, putV G (.int .i64 y.b) (.int .i64 (([] : List Ev).length + 1))), ⟨⟨by show 0 ≤ k + 1; omega, by show k + 1 ≤ c; omega⟩, _, rfl, rfl, hok2, hG2, hrun2⟩, by show c.toNat - (k + 1).toNat < c.toNat - k.toNat; omega, rfl, Told.trans (told_keep (s' := [(0, .d (.slc 14 xs)), (4, outV 1 0 0), (5, .d (.sc (.map (some g)))), (11, .d (.slc 14 xs)), (12, .d (.sc (.int .i64 c))), (13, .d (.sc (.int .i64 (k + 1))))]) (st' := [⟨67, newN k y, true, 0, true⟩]) [2] rfl ?_ ?_) (told_upst (UpSt.cons (new_up k y) rfl) ?_)⟩
        ·simp only [A0, hyr]
         rfl
        ·simp [toldP, getS, A0, wk, pullD, outV, List.idxOf?, List.findIdx?_cons]
        ·exact ⟨.inl (UpD.refl _), .inl (UpD.refl _), .inl (UpD.refl _), .inl (UpD.refl _), .inl (UpD.refl _), .inl (UpD.refl _), trivial⟩
   case false =>
    cbv
    try (simp only [t2, t3, t4, t5, t6, t7, t8, t9, e1, e1a, qq]; cbv)
    repeat first
     | (simp only [t2, t3, t4, t5, t6, t7, t8, t9, e1, e1a, qq]; cbv)
     | refine an_Hi90 ?_
    cases a2
    case false =>
     cbv
     try (simp only [t2, t3, t4, t5, t6, t7, t8, t9, e1, e1a, qq]; cbv)
     repeat first
      | (simp only [t2, t3, t4, t5, t6, t7, t8, t9, e1, e1a, qq]; cbv)
      | refine an_Hi90 ?_
     subst hA hX hW
     try rw [h12 rfl] at hret
     have hno : opsM l = none := hstep (o := none) (by unfold evStep; rw [hcall, hret]; simp)
     rw [hno]
     exact ret_up ⟨_, rfl, _, _, rfl, .inr ⟨rfl, 14, rfl⟩, _, _, rfl, .inl rfl, rfl⟩ rfl
    case true =>
     cbv
     try (simp only [t2, t3, t4, t5, t6, t7, t8, t9, e1, e1a, qq]; cbv)
     repeat first
      | (simp only [t2, t3, t4, t5, t6, t7, t8, t9, e1, e1a, qq]; cbv)
      | refine an_Hi90 ?_
     have hz1 : z0 = true := by rw [hz0, hlk0]; rfl
     subst hz1
     refine pauseM hBl hY (s' := [(0, .d (.slc 14 xs)), (4, .d (.slc 14 [])), (7, .ref 0 0 0), (8, .d (.sc (.int .i64 lk)))]) (told_upst (UpSt.cons (UpL.refl' _) rfl) (by exact ⟨.inl (UpD.refl _), .inl (.inr ⟨rfl, 14, rfl⟩), .inl (UpD.refl _), .inl (UpD.refl _), trivial⟩)) ?_
     refine goM (T := fun _ => tabY [9, 16, 68, 69, 78, 79, 80, 84, 85, 86, 87, 88, 93, 94, 95] []) (H := fun _ => [kn_cright GFs5, kn_clone GFsK]) (tabY_ok _ _) hH follows_mixed hBl hA hX hY ?_
     cbv
     repeat first
      | (simp only [t2, t3, t4, t5, t6, t7, t8, t9, e1, e1a, qq]; cbv)
      | refine an_Hi90 ?_
     subst hA hX hW
     try rw [h12 rfl] at hret
     have hno : opsM l = none := hstep (o := none) (by unfold evStep; rw [hcall, hret]; simp)
     rw [hno]
     exact ret_up ⟨_, rfl, _, _, rfl, .inr ⟨rfl, 14, rfl⟩, _, _, rfl, .inl rfl, rfl⟩ rfl
  ·cbv
   repeat first
    | (simp only [t2, e1, e1a, qq]; cbv)
    | refine an_Hi90 ?_
   refine regMr (T := fun _ => tabY [9, 16, 68, 69, 78, 79, 80, 84, 85, 86, 87, 88, 93, 94, 95] []) (H := fun _ => [kn_cright GFs5, kn_clone GFsK]) (tabY_ok _ _) hH follows_mixed hBl hA hX hY keyI mapI zeroI [] fun C hC => ?_
   have hlk9 := hG9 C hC
   cbv at hlk9
   cbv
   simp only [hlk9]
   repeat (refine And.intro (by subst hC hA; first | exact rfl | exact ⟨w2, hw2⟩ | exact trivial | (simp; done)) ?_)
   cbv
   repeat first
    | (simp only [t3, t4, e1, e1a, qq]; cbv)
    | refine an_Hi90 ?_
   cases a1
   case true =>
    cases g0
    case true =>
     cbv
     try (simp only [t2, t3, t4, t5, t6, t7, t8, t9, e1, e1a, qq]; cbv)
     repeat first
      | (simp only [t2, t3, t4, t5, t6, t7, t8, t9, e1, e1a, qq]; cbv)
      | refine an_Hi90 ?_
     subst hA hX hW
     try rw [h12 rfl] at hret
     have hno : opsM l = none := hstep (o := none) (by unfold evStep; rw [hcall, hret]; simp)
     rw [hno]
     exact ret_up ⟨_, rfl, _, _, rfl, .inr ⟨rfl, 14, rfl⟩, _, _, rfl, .inl rfl, rfl⟩ rfl
    case false =>
     cbv
     try (simp only [t2, t3, t4, t5, t6, t7, t8, t9, e1, e1a, qq]; cbv)
     repeat first
      | (simp only [t2, t3, t4, t5, t6, t7, t8, t9, e1, e1a, qq]; cbv)
      | refine an_Hi90 ?_
     cases rc
     case false =>
      cbv
      try (simp only [t2, t3, t4, t5, t6, t7, t8, t9, e1, e1a, qq]; cbv)
      repeat first
       | (simp only [t2, t3, t4, t5, t6, t7, t8, t9, e1, e1a, qq]; cbv)
       | refine an_Hi90 ?_
      subst hA hX hW
      try rw [h12 rfl] at hret
      have hno : opsM l = none := hstep (o := none) (by unfold evStep; rw [hcall, hret]; simp)
      rw [hno]
      exact ret_up ⟨_, rfl, _, _, rfl, .inr ⟨rfl, 14, rfl⟩, _, _, rfl, .inl rfl, rfl⟩ rfl
     case true =>
      cbv
      try (simp only [t2, t3, t4, t5, t6, t7, t8, t9, e1, e1a, qq]; cbv)
      repeat first
       | (simp only [t2, t3, t4, t5, t6, t7, t8, t9, e1, e1a, qq]; cbv)
       | refine an_Hi90 ?_
      cases kz
      case true =>
       cbv
       try (simp only [t2, t3, t4, t5, t6, t7, t8, t9, e1, e1a, qq]; cbv)
       repeat first
        | (simp only [t2, t3, t4, t5, t6, t7, t8, t9, e1, e1a, qq]; cbv)
        | refine an_Hi90 ?_
       subst hA hX hW
       try rw [h12 rfl] at hret
       have hno : opsM l = none := hstep (o := none) (by unfold evStep; rw [hcall, hret]; simp)
       rw [hno]
       exact ret_up ⟨_, rfl, _, _, rfl, .inr ⟨rfl, 14, rfl⟩, _, _, rfl, .inl rfl, rfl⟩ rfl
      case false =>
       cbv
       try (simp only [t2, t3, t4, t5, t6, t7, t8, t9, e1, e1a, qq]; cbv)
       repeat first
        | (simp only [t2, t3, t4, t5, t6, t7, t8, t9, e1, e1a, qq]; cbv)
        | refine an_Hi90 ?_
       cases nb
       case true =>
        cbv
        try (simp only [t2, t3, t4, t5, t6, t7, t8, t9, e1, e1a, qq]; cbv)
        repeat first
         | (simp only [t2, t3, t4, t5, t6, t7, t8, t9, e1, e1a, qq]; cbv)
         | refine an_Hi90 ?_
        subst hA hX hW
        try rw [h12 rfl] at hret
        have hno : opsM l = none := hstep (o := none) (by unfold evStep; rw [hcall, hret]; simp)
        rw [hno]
        exact ret_up ⟨_, rfl, _, _, rfl, .inr ⟨rfl, 14, rfl⟩, _, _, rfl, .inl rfl, rfl⟩ rfl
       case false =>
        cbv
        try (simp only [t2, t3, t4, t5, t6, t7, t8, t9, e1, e1a, qq]; cbv)
        repeat first
         | (simp only [t2, t3, t4, t5, t6, t7, t8, t9, e1, e1a, qq]; cbv)
         | refine an_Hi90 ?_
        have hfull : A.full dc (n + 1) 14 := by subst hA; show dc.length = (n + 1) * 14; rw [hdc, evsC_len, ← hn]
        have hisl : A.isl (n + 1) 1 168 := by subst hA; replace hc : c = (l.length : Int) := hc; have := hok.len; exact ⟨by omega, by omega⟩
        cbv at hfull hisl
        repeat first
         | (simp only [t2, t3, t4, t5, t6, t7, t8, t9, e1, e1a, qq]; cbv)
         | refine an_Hi90 ?_
        refine regMr (T := fun _ => tabY [9, 16, 68, 69, 78, 79, 80, 84, 85, 86, 87, 88, 93, 94, 95] []) (H := fun _ => [kn_cright GFs5, kn_clone GFsK]) (tabY_ok _ _) hH follows_mixed hBl hA hX hY keyI mapI zeroI [] fun C2 hC2 => ?_
        cbv
        repeat (refine And.intro (by subst hC2 hA; first | exact rfl | exact ⟨w2, hw2⟩ | exact trivial | exact ⟨_, rfl⟩ | (simp; done)) ?_)
        cbv
        repeat first
         | (simp only [t2, t3, t4, t5, t6, t7, t8, t9, e1, e1a, qq]; cbv)
         | refine an_Hi90 ?_
        subst hyb hA hC2 hR
        rw [hB0]
        replace hc : c = (l.length : Int) := hc
        replace k0 : 0 ≤ k := k0
        replace hlt : k < c := hlt
        have wk : IntKind.wrap .i64 (k + 1) = k + 1 := wrap_i64 (by unfold r64; omega)
        have hstE : evStep k out y = some (out ++ [evNew k y]) := by unfold evStep; rw [hcall]; rfl
        have hcl : y.c.client = y.b := by simpa using hnb
        have hG2 := hG.call (i := k) hcl
        have hok2 := hok.step k0 (hevp y hyx) hstE
        have hrun2 := hstep hstE
        subst hdc
        refine ⟨(k + 1, n + 2, evsC (out ++ [evNew k y]), v + 1, putV G (.int .i64 y.b) (.int .i64 (out.length + 1))), ⟨⟨by show 0 ≤ k + 1; omega, by show k + 1 ≤ c; omega⟩, _, ?_, rfl, hok2, hG2, hrun2⟩, by show c.toNat - (k + 1).toNat < c.toNat - k.toNat; omega, ?_, Told.trans (told_keep (s' := [(0, .d (.slc 14 xs)), (4, outV (n + 2) 0 (v + 1)), (5, .d (.sc (.map (some g)))), (11, .d (.slc 14 xs)), (12, .d (.sc (.int .i64 c))), (13, .d (.sc (.int .i64 (k + 1))))]) (st' := [⟨67, evsC out ++ newN k y, true, v + 1, true⟩]) [0] rfl ?_ ?_) (told_upst (UpSt.cons (st' := []) (ds := evsC (out ++ [evNew k y])) (by rw [evsC_app]; exact upl_app (UpL.refl' _) (new_up k y)) rfl) ?_)⟩
        ·show n + 2 = (out ++ [evNew k y]).length
         rw [List.length_append, ← hn]
         rfl
        ·have e9 : ((out.length : Int) + 1) = (((n + 1) + 1 : Nat) : Int) := by omega
         show some (g, putV G (.int .i64 y.b) (.int .i64 ((out.length : Int) + 1))) = _
         rw [e9]
         rfl
        ·simp only [A0, hyr]
         show [(⟨67, evsC out ++ newN k y, true, v + 1, true⟩ : Box)] = [⟨67, pullL [0] (evsC out ++ newN k y), true, v + 1, true⟩]
         rw [pullL_eq, List.map_append, ← pullL_eq, evsC_pull]
         rfl
        ·simp [toldP, getS, A0, wk, pullD, outV, List.idxOf?, List.findIdx?_cons]
        ·exact ⟨.inl (UpD.refl _), .inl (UpD.refl _), .inl (UpD.refl _), .inl (UpD.refl _), .inl (UpD.refl _), .inl (UpD.refl _), trivial⟩
   case false =>
    cbv
    try (simp only [t2, t3, t4, t5, t6, t7, t8, t9, e1, e1a, qq]; cbv)
    repeat first
     | (simp only [t2, t3, t4, t5, t6, t7, t8, t9, e1, e1a, qq]; cbv)
     | refine an_Hi90 ?_
    cases a2
    case false =>
     cbv
     try (simp only [t2, t3, t4, t5, t6, t7, t8, t9, e1, e1a, qq]; cbv)
     repeat first
      | (simp only [t2, t3, t4, t5, t6, t7, t8, t9, e1, e1a, qq]; cbv)
      | refine an_Hi90 ?_
     subst hA hX hW
     try rw [h12 rfl] at hret
     have hno : opsM l = none := hstep (o := none) (by unfold evStep; rw [hcall, hret]; simp)
     rw [hno]
     exact ret_up ⟨_, rfl, _, _, rfl, .inr ⟨rfl, 14, rfl⟩, _, _, rfl, .inl rfl, rfl⟩ rfl
    case true =>
     cbv
     try (simp only [t2, t3, t4, t5, t6, t7, t8, t9, e1, e1a, qq]; cbv)
     repeat first
      | (simp only [t2, t3, t4, t5, t6, t7, t8, t9, e1, e1a, qq]; cbv)
      | refine an_Hi90 ?_
     cases z0
     case true =>
      refine goM (T := fun _ => tabY [9, 16, 68, 69, 78, 79, 80, 84, 85, 86, 87, 88, 93, 94, 95] []) (H := fun _ => [kn_cright GFs5, kn_clone GFsK]) (tabY_ok _ _) hH follows_mixed hBl hA hX hY ?_
      cbv
      repeat first
       | (simp only [t2, t3, t4, t5, t6, t7, t8, t9, e1, e1a, qq]; cbv)
       | refine an_Hi90 ?_
      subst hA hX hW
      try rw [h12 rfl] at hret
      have hno : opsM l = none := hstep (o := none) (by unfold evStep; rw [hcall, hret]; simp)
      rw [hno]
      exact ret_up ⟨_, rfl, _, _, rfl, .inr ⟨rfl, 14, rfl⟩, _, _, rfl, .inl rfl, rfl⟩ rfl
     case false =>
      refine goM (T := fun _ => tabY [9, 16, 68, 69, 78, 79, 80, 84, 85, 86, 87, 88, 93, 94, 95] []) (H := fun _ => [kn_cright GFs5, kn_clone GFsK]) (tabY_ok _ _) hH follows_mixed hBl hA hX hY ?_
      cbv
      obtain ⟨j, hj⟩ : ∃ z, z = openX yb out := ⟨_, rfl⟩
      have hz1 : ¬ lk = 0 := of_decide_eq_false hz0.symm
      have hj0 : 0 ≤ j := by omega
      have hj1 : j < out.length := by rw [hj]; exact openX_lt (by omega)
      have w5 : A.bin .sub .i64 lk 1 = j := by
       replace hc : c = (l.length : Int) := hc
       replace hlt : k < c := hlt
       have hol := hok.len
       have ej : j + 1 - 1 = j := by omega
       subst hA
       show IntKind.wrap .i64 (lk - 1) = j
       rw [hlk, ← hj, ej]
       refine wrap_i64 ?_
       unfold r64
       omega
      obtain ⟨p, hp⟩ : ∃ z : Nat, z = A.off 0 j 14 := ⟨_, rfl⟩
      have hjN : j.toNat < out.length := by omega
      obtain ⟨o, ho⟩ : ∃ z, z = out[j.toNat] := ⟨_, rfl⟩
      have hpv : p = j.toNat * 14 := by rw [hp]; subst hA; show 0 + j.toNat * 14 = _; omega
      have hget : ∀ m, m < 14 → dc[p + m]? = o.cells[m]? := fun m hm => by rw [hpv, hdc, ho]; exact evsC_get hjN m hm
      have hdl : dc.length = out.length * 14 := by rw [hdc]; exact evsC_len out
      have g2 : dc[p + 2]? = some (.d (.sc (.int .i64 o.c.kind))) := hget 2 (by omega)
      have g3 : dc[p + 2 + 1]? = some (.d (.sc (.int .i64 o.c.client))) := hget 3 (by omega)
      have g4 : dc[p + 2 + 2]? = some (.d (.sc (.int .i64 o.c.seq))) := hget 4 (by omega)
      have g5 : dc[p + 2 + 3]? = some (.d (.sc (.string o.c.key))) := hget 5 (by omega)
      have g6 : dc[p + 2 + 4]? = some (.d (.sc (.string o.c.fin))) := hget 6 (by omega)
      have g7 : dc[p + 2 + 5]? = some (.d (.sc (.string o.c.old))) := hget 7 (by omega)
      have g8 : dc[p + 2 + 6]? = some (.d (.sc (.string o.c.val))) := hget 8 (by omega)
      have hog : out.getD (openX yb out).toNat default = o := by rw [← hj, List.getD_eq_getElem?_getD, List.getElem?_eq_getElem hjN, ho]; rfl
      obtain ⟨ne, t10⟩ : ∃ t, A.not (A.and (A.cmp .eql (A.gi dc (A.pl p 2)) (A.gi (A.lift (A.row xs k)) (A.pl 0 2))) (A.and (A.cmp .eql (A.gi dc (A.pl (A.pl p 2) 1)) (A.gi (A.lift (A.row xs k)) (A.pl 0 3))) (A.and (A.cmp .eql (A.gi dc (A.pl (A.pl p 2) 2)) (A.gi (A.lift (A.row xs k)) (A.pl 0 4))) (A.and (A.scmp .eql (A.gs dc (A.pl (A.pl p 2) 3)) (A.gs (A.lift (A.row xs k)) (A.pl 0 5))) (A.and (A.scmp .eql (A.gs dc (A.pl (A.pl p 2) 4)) (A.gs (A.lift (A.row xs k)) (A.pl 0 6))) (A.and (A.scmp .eql (A.gs dc (A.pl (A.pl p 2) 5)) (A.gs (A.lift (A.row xs k)) (A.pl 0 7))) (A.and (A.scmp .eql (A.gs dc (A.pl (A.pl p 2) 6)) (A.gs (A.lift (A.row xs k)) (A.pl 0 8))) (true)))))))) = t := ⟨_, rfl⟩
      have hne : ne = !eqb := by
       rw [heqb, hog, ← cmd_eq, ← t10]
       subst hA
       simp only [A0, hyr, g2, g3, g4, g5, g6, g7, g8]
       rfl
      have hh5 : A.has dc (A.pl p 2) 7 [.d (.sc (.int .i64 (A.gi dc (A.pl p 2)))), .d (.sc (.int .i64 (A.gi dc (A.pl (A.pl p 2) 1)))), .d (.sc (.int .i64 (A.gi dc (A.pl (A.pl p 2) 2)))), .d (.sc (.string (A.gs dc (A.pl (A.pl p 2) 3)))), .d (.sc (.string (A.gs dc (A.pl (A.pl p 2) 4)))), .d (.sc (.string (A.gs dc (A.pl (A.pl p 2) 5)))), .d (.sc (.string (A.gs dc (A.pl (A.pl p 2) 6))))] := by
       subst hA
       simp only [A0, g2, g3, g4, g5, g6, g7, g8]
       refine ⟨rfl, by omega, ?_⟩
       have e5 : dc.drop (p + 2) = (o.cells.drop 2) ++ evsC (out.drop (j.toNat + 1)) := by
        rw [← List.drop_drop, hpv, hdc, evsC_row out j.toNat hjN, ho]
        rfl
       rw [e5]
       rfl
      have is00 : A.is false false = true := by subst hA; rfl
      have is10 : A.is true false = false := by subst hA; rfl
      have hinb2 : A.inb j (A.int (n + 1)) := by subst hA; exact ⟨hj0, by show j < ((n + 1 : Nat) : Int); omega⟩
      cbv at w5 hp t10 hh5 is00 is10 hinb2
      simp only [t6, is00]
      cbv
      simp only [w5, ← hp, t10]
      cbv
      repeat first
       | (simp only [w5, ← hp, is00, is10, t2, t3, t4, t5, t6, t7, t8, t9, e1, e1a, qq]; cbv)
       | refine an_Hi90 ?_
      cases ne
      case true =>
       have eqf : eqb = false := by cases eqb; rfl; cases hne
       rw [eqf] at hret
       cbv
       repeat first
        | (simp only [w5, ← hp, is00, is10, t2, t3, t4, t5, t6, t7, t8, t9, e1, e1a, qq]; cbv)
        | refine an_Hi90 ?_
       subst hA hX hW
       try rw [h12 rfl] at hret
       have hno : opsM l = none := hstep (o := none) (by unfold evStep; rw [hcall, hret]; simp)
       rw [hno]
       exact ret_up ⟨_, rfl, _, _, rfl, .inr ⟨rfl, 14, rfl⟩, _, _, rfl, .inl rfl, rfl⟩ rfl
      case false =>
       have eqt : eqb = true := by cases eqb; cases hne; rfl
       cbv
       repeat first
        | (simp only [w5, ← hp, is00, is10, t2, t3, t4, t5, t6, t7, t8, t9, e1, e1a, qq]; cbv)
        | refine an_Hi90 ?_
       obtain ⟨P, hP⟩ : ∃ z, z = evsC (out.take j.toNat) := ⟨_, rfl⟩
       obtain ⟨S, hS⟩ : ∃ z, z = evsC (out.drop (j.toNat + 1)) := ⟨_, rfl⟩
       have hPl : p = P.length := by rw [hP, evsC_len, List.length_take, hpv, Nat.min_eq_left (by omega)]
       have hdc2 : dc = P ++ (o.cells ++ S) := by rw [hdc, evsC_split hjN, hP, hS, ho]
       obtain ⟨D1, hD1⟩ : ∃ z, z = P ++ (splice o.cells 1 [.d (.sc (.int .i64 k))] ++ S) := ⟨_, rfl⟩
       have hs1 : splice dc (p + 1) [.d (.sc (.int .i64 k))] = D1 := by rw [hD1, hdc2, hPl]; exact splice_mid P o.cells S _ 1 (show 1 + 1 ≤ 14 by omega)
       obtain ⟨D2, hD2⟩ : ∃ z, z = P ++ (splice (splice o.cells 1 [.d (.sc (.int .i64 k))]) 9 [.d (.sc (.int .i64 y.r.why)), .d (.sc (.bool y.r.found)), .d (.sc (.string y.r.value)), .d (.sc (.int .i64 y.r.version)), .d (.slc 3 y.r.pairs)] ++ S) := ⟨_, rfl⟩
       have hs2 : splice D1 (p + 9) [.d (.sc (.int .i64 y.r.why)), .d (.sc (.bool y.r.found)), .d (.sc (.string y.r.value)), .d (.sc (.int .i64 y.r.version)), .d (.slc 3 y.r.pairs)] = D2 := by rw [hD2, hD1, hPl]; exact splice_mid P (splice o.cells 1 [.d (.sc (.int .i64 k))]) S _ 9 (show 9 + 5 ≤ 14 by omega)
       obtain ⟨D3, hD3⟩ : ∃ z, z = P ++ ((evBack k y o).cells ++ S) := ⟨_, rfl⟩
       have hs3 : splice D2 (p + 9 + 4) [.d (.slc 3 y.r.pairs)] = D3 := by rw [hD3, hD2, hPl]; exact splice_mid P (splice (splice o.cells 1 [.d (.sc (.int .i64 k))]) 9 [.d (.sc (.int .i64 y.r.why)), .d (.sc (.bool y.r.found)), .d (.sc (.string y.r.value)), .d (.sc (.int .i64 y.r.version)), .d (.slc 3 y.r.pairs)]) S [.d (.slc 3 y.r.pairs)] 13 (show 13 + 1 ≤ 14 by omega)
       have hl1 : D1.length = dc.length := by rw [hD1, hdc2, List.length_append, List.length_append, List.length_append, List.length_append]; rfl
       have hl2 : D2.length = dc.length := by rw [hD2, hdc2, List.length_append, List.length_append, List.length_append, List.length_append]; rfl
       have hl3 : D3.length = dc.length := by rw [hD3, hdc2, List.length_append, List.length_append, List.length_append, List.length_append]; rfl
       have hD3s : D3 = evsC (out.set j.toNat (evBack k y o)) := by rw [hD3, evsC_set hjN, hP, hS]
       have x1 : A.spl dc (A.pl p 1) [.d (.sc (.int .i64 k))] = D1 := by subst hA; exact hs1
       have x2 : A.spl D1 (A.pl p 9) [.d (.sc (.int .i64 (A.gi (A.lift (A.row xs k)) (A.pl 0 9)))), .d (.sc (.bool (A.gb (A.lift (A.row xs k)) (A.pl 0 10)))), .d (.sc (.string (A.gs (A.lift (A.row xs k)) (A.pl 0 11)))), .d (.sc (.int .i64 (A.gi (A.lift (A.row xs k)) (A.pl 0 12)))), .d (.slc 3 (A.gl (A.lift (A.row xs k)) (A.pl 0 13)))] = D2 := by rw [← hs2]; subst hA; simp only [A0, hyr]; rfl
       have x3 : A.spl D2 (A.pl (A.pl p 9) 4) [.d (.slc 3 (GFsK.clone (A.gl (A.lift (A.row xs k)) (A.pl 0 13))))] = D3 := by rw [← hs3]; subst hA hFsK; simp only [A0, hyr]; rfl
       have x4 : GFsK.isP (A.gl (A.lift (A.row xs k)) (A.pl 0 13)) := by subst hA hFsK; simp only [A0, hyr]; exact hevp y hyx
       have y1 : A.fits dc (A.pl p 1) 1 := by subst hA; show p + 1 + 1 ≤ dc.length; omega
       have y2 : A.fits D1 (A.pl p 9) 5 := by subst hA; show p + 9 + 5 ≤ D1.length; omega
       have y3 : A.fits D2 (A.pl (A.pl p 9) 4) 1 := by subst hA; show p + 9 + 4 + 1 ≤ D2.length; omega
       cbv at x1 x2 x3 x4 y1 y2 y3
       simp only [x1, x2, x3]
       repeat first
        | (simp only [w5, ← hp, is00, is10, t2, t3, t4, t5, t6, t7, t8, t9, e1, e1a, qq]; cbv)
        | refine an_Hi90 ?_
       refine regMr (T := fun _ => tabY [9, 16, 68, 69, 78, 79, 80, 84, 85, 86, 87, 88, 93, 94, 95] []) (H := fun _ => [kn_cright GFs5, kn_clone GFsK]) (tabY_ok _ _) hH follows_mixed hBl hA hX hY keyI mapI zeroI [] fun C2 hC2 => ?_
       cbv
       repeat (refine And.intro (by subst hC2 hA; first | exact rfl | exact ⟨w2, hw2⟩ | exact trivial | exact ⟨_, rfl⟩ | (simp; done)) ?_)
       cbv
       repeat first
        | (simp only [w5, ← hp, is00, is10, t2, t3, t4, t5, t6, t7, t8, t9, e1, e1a, qq]; cbv)
        | refine an_Hi90 ?_
       subst hyb hA hC2 hR
       rw [hB0]
       replace hc : c = (l.length : Int) := hc
       replace k0 : 0 ≤ k := k0
       replace hlt : k < c := hlt
       have wk : IntKind.wrap .i64 (k + 1) = k + 1 := wrap_i64 (by unfold r64; omega)
       obtain ⟨o2, ho2, hoo⟩ := openX_get (c := y.b) (l := out) (by rw [← hj]; exact hj0)
       have hoj : out[j.toNat]? = some o := by rw [ho]; exact List.getElem?_eq_getElem hjN
       rw [← hj, hoj, Option.some.injEq] at ho2
       subst ho2
       have hstE : evStep k out y = some (out.set j.toNat (evBack k y o)) := by
        unfold evStep
        rw [hcall, hret, eqt, hog, ← hj]
        simp
       have hG2 := hG.back hok.u k0 hoj hoo
       have hok2 := hok.step k0 (hevp y hyx) hstE
       have hrun2 := hstep hstE
       refine ⟨(k + 1, n + 1, evsC (out.set j.toNat (evBack k y o)), v, putV G (.int .i64 y.b) (.int .i64 0)), ⟨⟨by show 0 ≤ k + 1; omega, by show k + 1 ≤ c; omega⟩, _, by rw [List.length_set]; exact hn, rfl, hok2, hG2, hrun2⟩, by show c.toNat - (k + 1).toNat < c.toNat - k.toNat; omega, rfl, told_keep [0] rfl ?_ ?_⟩
       ·rw [hD3s]
        show [(⟨67, evsC (out.set j.toNat (evBack k y o)), true, v, true⟩ : Box)] = [⟨67, pullL [0] (evsC (out.set j.toNat (evBack k y o))), true, v, true⟩]
        rw [evsC_pull]
       ·simp [toldP, getS, A0, wk, pullD, outV, List.idxOf?, List.findIdx?_cons]
 ·have t2 : A.cmp .lss k c = false := by subst hA; exact decide_eq_false hlt
  have hres : opsM l = some out := by
   replace hc : c = (l.length : Int) := hc
   replace hlt : ¬ k < c := hlt
   show opsF l 0 [] = _
   rw [hrun, List.drop_eq_nil_of_le (by omega)]
   rfl
  cbv at t2
  rcases n with _ | n
  ·have ho0 : out = [] := List.eq_nil_of_length_eq_zero hn.symm
   subst ho0
   cbv
   simp only [t2]
   cbv
   subst hA hX hW
   rw [hres]
   exact ret_up ⟨_, rfl, _, _, rfl, .inr ⟨rfl, 14, rfl⟩, _, _, rfl, .inl rfl, rfl⟩ rfl
  ·cbv
   simp only [t2]
   cbv
   subst hA hX hW
   rw [hres]
   exact ret_slice2 (xs := evsX out) (bx := ⟨_, dc, true, v, true⟩) rfl rfl rfl (by rw [evsX_len]; exact hn) (by rw [hdc]; exact evsC_rows out) (evsX_sz out) rfl
def opsR (xs : List (List PD)) : List (List PD) × Bool := match opsM (evsOf xs) with
 | none => ([], false)
 | some o => (evsX o, true)
theorem v_hops (xs : List (List PD)) (h : isEv xs) : FnV Try.prog 26 [.d (.slc 14 xs)] (.tup [.d (.slc 14 (opsR xs).1), .d (.sc (.bool (opsR xs).2))]) := by
 obtain ⟨l, hxs, hl, h2⟩ := h
 have hw := w_ops xs l hxs hl ⟨l, hxs, hl, h2⟩
 have e : (.tup [.d (.slc 14 (opsR xs).1), .d (.sc (.bool (opsR xs).2))] : DV) = (match opsM l with | none => .tup [.d (.slc 14 []), .d (.sc (.bool false))] | some o => .tup [.d (.slc 14 (evsX o)), .d (.sc (.bool true))]) := by
  unfold opsR
  rw [hxs, evsOf_X]
  cases opsM l <;> rfl
 rw [e]
 exact hw
structure FsHp where
 hops : List (List PD) → List (List PD) × Bool
 isEv : List (List PD) → Prop
noncomputable def FsHp0 : FsHp where
 hops := opsR
 isEv := isEv
def kn_hops (F : FsHp) : FuncId × (List DV → RV) := (26, fun args => match args with
 | [.d (.slc 14 xs)] => some ([F.isEv xs], .tup [.d (.slc 14 ((F.hops xs)).1), boolD (((F.hops xs)).2)])
 | [.d (.sc (.slice none 0 0))] => some ([F.isEv []], .tup [.d (.slc 14 ((F.hops [])).1), boolD (((F.hops [])).2)])
 | _ => none)
theorem ok_hops (args : List DV) (cs : List Prop) (r : DV) (h : (kn_hops FsHp0).2 args = some (cs, r)) (hc : allP cs True) : FnV Try.prog 26 args r ∧ closedL 0 args = true := by
 unfold kn_hops at h
 simp only at h
 split at h
 ·cases h; exact ⟨v_hops _ hc.1, rfl⟩
 ·cases h; exact ⟨FnP.nils (v_hops [] hc.1) ⟨.inr ⟨rfl, _, rfl⟩, trivial⟩, rfl⟩
 ·cases h
end Go.Proofs.Ytadnpgkddgbhkaa
