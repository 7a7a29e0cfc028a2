/- The instances that a row reaches, and another one does not. No condition. -/
import Derived.Test.YtikodmddomaneaaDp4
namespace Go.Proofs.Ytikodmddomaneaa
open Go.RowKit
set_option linter.all false
set_option maxHeartbeats 4000000
def Inst.row (i : Inst) : List PD := [.sc (.int .i64 i.replica), .sc (.int .i64 i.slot)]
def instsX (l : List Inst) : List (List PD) := l.map Inst.row
def isIn (xs : List (List PD)) : Prop := ∃ l : List Inst, xs = instsX l ∧ l.length ≤ 4194304
theorem isIn.len {xs : List (List PD)} (h : isIn xs) : xs.length ≤ 4194304 := by obtain ⟨l, rfl, h⟩ := h; simpa [instsX] using h
theorem isIn.sz {xs : List (List PD)} (h : isIn xs) : ∀ x ∈ xs, x.length = 2 := by
  obtain ⟨l, rfl, _⟩ := h
  intro x hx
  simp only [instsX, List.mem_map] at hx
  obtain ⟨_, _, rfl⟩ := hx
  rfl
theorem instsX_length (l : List Inst) : (instsX l).length = l.length := by simp [instsX]
def listR (r : Int) (k : Int) : Nat → List Inst → List Inst
  | 0, out => out
  | n + 1, out => if out.length < 1000 then listR r (k + 1) n (out ++ [⟨r, k + 1⟩]) else out
def listN (d f : Deps) : Nat → List Inst
  | 0 => []
  | n + 1 => listR n (max (f.at n) 0) (d.at n - max (f.at n) 0).toNat (listN d f n)
def listD (d f : Deps) : List Inst := listN d f 7
def rDeps (d : Deps) : Prop := r64 d.d0 ∧ r64 d.d1 ∧ r64 d.d2 ∧ r64 d.d3 ∧ r64 d.d4 ∧ r64 d.d5 ∧ r64 d.d6
theorem rDeps.at {d : Deps} (h : rDeps d) (r : Int) : r64 (d.at r) := by
  obtain ⟨h0, h1, h2, h3, h4, h5, h6⟩ := h
  unfold Deps.at
  split
  · exact h0
  split
  · exact h1
  split
  · exact h2
  split
  · exact h3
  split
  · exact h4
  split
  · exact h5
  · exact h6
theorem listR_step {r k to : Int} {out : List Inst} (h : k < to) (hl : out.length < 1000) : listR r k (to - k).toNat out = listR r (k + 1) (to - (k + 1)).toNat (out ++ [⟨r, k + 1⟩]) := by
  rw [show (to - k).toNat = (to - (k + 1)).toNat + 1 by omega, listR, if_pos hl]
theorem listR_end {r k to : Int} {out : List Inst} (h : ¬ (k < to ∧ out.length < 1000)) : listR r k (to - k).toNat out = out := by
  cases hn : (to - k).toNat with
  | zero => rfl
  | succ n => rw [listR, if_neg (by omega)]
theorem listR_len (r : Int) : ∀ (n : Nat) (k : Int) (out : List Inst), out.length ≤ 1000 → (listR r k n out).length ≤ 1000
  | 0, _, _, h => h
  | n + 1, k, out, h => by
      unfold listR
      split
      · exact listR_len r n _ _ (by simp; omega)
      · exact h
theorem listN_len (d f : Deps) : ∀ n, (listN d f n).length ≤ 1000
  | 0 => by simp [listN]
  | n + 1 => listR_len _ _ _ _ (listN_len d f n)
theorem list_isIn (d f : Deps) : isIn (instsX (listD d f)) := ⟨_, rfl, Nat.le_trans (listN_len d f 7) (by decide)⟩
theorem load1 {l : List DV} {i : Nat} {d : DV} (h : l[i]? = some d) : i + 1 ≤ l.length ∧ List.take 1 (List.drop i l) = [d] := by
  have hl : i < l.length := (List.getElem?_eq_some_iff.1 h).1
  refine ⟨hl, ?_⟩
  rw [List.drop_eq_getElem_cons hl]
  simp [(List.getElem?_eq_some_iff.1 h).2]
def liS : Option (List DV × Nat × Nat) → DV
  | none => .d (.sc (.slice none 0 0))
  | some (_, v, m) => .view 2 2 v 0 m
def liI (acc : List Inst) : Option (List DV × Nat × Nat) → Prop
  | none => acc = []
  | some (cs, _, m) => cs = rowsD (instsX acc) ∧ m = acc.length
def liT : Option (List DV × Nat × Nat) → Store
  | none => []
  | some (cs, v, _) => [⟨34, cs, true, v, true⟩]
def dC (d : Deps) : List DV := [.d (.sc (.int .i64 d.d0)), .d (.sc (.int .i64 d.d1)), .d (.sc (.int .i64 d.d2)), .d (.sc (.int .i64 d.d3)), .d (.sc (.int .i64 d.d4)), .d (.sc (.int .i64 d.d5)), .d (.sc (.int .i64 d.d6))]
theorem dC_at (d : Deps) {r : Int} (h0 : 0 ≤ r) (h1 : r < 7) : (dC d)[r.toNat]? = some (.d (.sc (.int .i64 (d.at r)))) := by
  have : r = 0 ∨ r = 1 ∨ r = 2 ∨ r = 3 ∨ r = 4 ∨ r = 5 ∨ r = 6 := by omega
  rcases this with rfl | rfl | rfl | rfl | rfl | rfl | rfl <;> rfl

structure FsI where
  list : Deps → Deps → List (List PD)
  rDeps : Deps → Prop
def FsI0 : FsI where
  list := fun d f => instsX (listD d f)
  rDeps := rDeps
set_option maxRecDepth 100000 in
theorem v_list (d : Deps) (f : Deps) (hp0 : FsI0.rDeps d) (hp1 : FsI0.rDeps f) : FnV Try.prog 12 [Deps.D d, Deps.D f] (.d (.slc 2 ((fun d f => instsX (listD d f)) d f))) := by
  obtain ⟨d_d0, d_d1, d_d2, d_d3, d_d4, d_d5, d_d6⟩ := d
  obtain ⟨f_d0, f_d1, f_d2, f_d3, f_d4, f_d5, f_d6⟩ := f
  have hd : rDeps ⟨d_d0, d_d1, d_d2, d_d3, d_d4, d_d5, d_d6⟩ := hp0
  have hf : rDeps ⟨f_d0, f_d1, f_d2, f_d3, f_d4, f_d5, f_d6⟩ := hp1
  obtain ⟨D, hD⟩ : ∃ D : Deps, D = ⟨d_d0, d_d1, d_d2, d_d3, d_d4, d_d5, d_d6⟩ := ⟨_, rfl⟩
  obtain ⟨G, hG⟩ : ∃ G : Deps, G = ⟨f_d0, f_d1, f_d2, f_d3, f_d4, f_d5, f_d6⟩ := ⟨_, rfl⟩
  rw [← hD] at hd
  rw [← hG] at hf
  obtain ⟨dc, hdc⟩ : ∃ dc, dc = dC D := ⟨_, rfl⟩
  obtain ⟨fc, hfc⟩ : ∃ fc, fc = dC G := ⟨_, rfl⟩
  refine FnD_cbv (T := fun _ => tabY [15] []) (H := fun _ => []) (tabY_ok _ _) noK_ok follows_mixed Try.func12 rfl Try.ntmps12 (by simp) fun A X W hA hX hW => ?_
  cbv
  refine loopL (T := fun _ => tabY [15] []) (H := fun _ => []) (tabY_ok _ _) noK_ok follows_mixed hA hX (fun x : Int × List Inst × Option (List DV × Nat × Nat) => (0 ≤ x.1 ∧ x.1 ≤ 7) ∧ x.2.1 = listN D G x.1.toNat ∧ liI x.2.1 x.2.2)
    (fun x => [(3, .ref 1 0 0), (5, liS x.2.2), (9, .agg dc), (10, .d (.sc (.int .i64 x.1)))]) (fun x => [⟨23, dc, false, 0, true⟩, ⟨23, fc, false, 0, true⟩] ++ liT x.2.2)
    (fun x => 7 - x.1.toNat) (0, [], none) ?_ ?_ ?_
  · exact ⟨⟨by decide, by decide⟩, rfl, rfl⟩
  · subst hA hdc hfc hD hG; exact told_less (by simp [toldP, getS, A0, liS, dC])
  rintro R ⟨r, acc, o⟩ hR ⟨hr, hacc, ho⟩
  replace hr : 0 ≤ r ∧ r ≤ 7 := hr
  replace hacc : acc = listN D G r.toNat := hacc
  replace ho : o = none ∧ acc = [] ∨ ∃ cs v m, o = some (cs, v, m) ∧ cs = rowsD (instsX acc) ∧ m = acc.length := by
    rcases o with _ | ⟨cs, v, m⟩
    · exact .inl ⟨rfl, ho⟩
    · exact .inr ⟨cs, v, m, rfl, ho⟩
  rcases ho with ⟨rfl, ho⟩ | ⟨cs, v, m, rfl, hcs, hm⟩ <;>
  cbv
  all_goals
    repeat' first
      | (refine part (fun h => ?_) (fun h => ?_) <;> try cbv)
      | (refine And.intro ?_ ?_)
  all_goals try (subst hA; simp only [A0]; done)
  all_goals try
    (have hX2 := hX
     subst hA hX hW hR
     simp only [A0, nc, decide_eq_true_eq, decide_eq_false_iff_not] at *
     first
       | rfl
       | (have hr7 : r < 7 := by omega
          have e1 := dC_at D hr.1 hr7
          have e2 := dC_at G hr.1 hr7
          rw [← hdc] at e1
          rw [← hfc] at e2
          first
            | exact ⟨hr.1, by omega⟩
            | (simp only [Nat.zero_add, Nat.mul_one, e1]; exact ⟨rfl, load1 e1⟩)
            | (simp only [Nat.zero_add, Nat.mul_one, e2]; exact ⟨rfl, load1 e2⟩))
       | (have hr7 : r = 7 := by omega
          subst hr7
          have hL : acc = listD D G := hacc
          show RetW 0 _ _ _
          rw [← hD, ← hG]
          first
            | (subst ho; rw [← hL]; exact ret_nil rfl)
            | (refine ret_slice (bx := ⟨34, cs, true, v, true⟩) (xs := instsX acc) rfl rfl rfl ?_ hcs ?_ ?_
               · rw [hm, instsX_length]
               · intro x hx
                 simp only [instsX, List.mem_map] at hx
                 obtain ⟨_, _, rfl⟩ := hx
                 rfl
               · rw [← hL])))

  · have hr7 : r < 7 := by
      subst hA
      simpa only [A0, nc, decide_eq_true_eq] using h
    have e1 := dC_at D hr.1 hr7
    have e2 := dC_at G hr.1 hr7
    rw [← hdc] at e1
    rw [← hfc] at e2
    have hto := hd.at r
    have hfr := hf.at r
    obtain ⟨to, hto2⟩ : ∃ to, to = D.at r := ⟨_, rfl⟩
    obtain ⟨k0, hk0⟩ : ∃ k0, k0 = max (G.at r) 0 := ⟨_, rfl⟩
    have hkr : 0 ≤ k0 ∧ k0 ≤ 9223372036854775807 := by unfold r64 at hfr; omega
    rw [← hto2] at hto
    unfold r64 at hto
    have hL : listN D G (r + 1).toNat = listR r k0 (to - k0).toNat acc := by
      rw [show (r + 1).toNat = r.toNat + 1 by omega, listN, ← hacc, show ((r.toNat : Nat) : Int) = r by omega, hto2, hk0]
    have hlen : acc.length ≤ 1000 := by rw [hacc]; exact listN_len D G _
    obtain ⟨L, hLe⟩ : ∃ L, L = listN D G (r + 1).toNat := ⟨_, rfl⟩
    rw [← hLe] at hL
    refine loopL (T := fun _ => tabY [15] []) (H := fun _ => []) (tabY_ok _ _) noK_ok follows_mixed hA hX (fun x : Int × List Inst × Option (List DV × Nat × Nat) => (0 ≤ x.1 ∧ x.1 ≤ 9223372036854775807) ∧ L = listR r x.1 (to - x.1).toNat x.2.1 ∧ x.2.1.length ≤ 1000 ∧ liI x.2.1 x.2.2)
      (fun x => [(3, .ref 1 0 0), (5, liS x.2.2), (6, .d (.sc (.int .i64 r))), (7, .d (.sc (.int .i64 to))), (8, .d (.sc (.int .i64 x.1))), (9, .agg dc), (10, .d (.sc (.int .i64 r)))]) (fun x => [⟨23, dc, false, 0, true⟩, ⟨23, fc, false, 0, true⟩] ++ liT x.2.2)
      (fun x => (to - x.1).toNat) (k0, acc, none) ?_ ?_ ?_
    · exact ⟨hkr, hL, hlen, ho⟩
    · subst hA
      refine told_less ?_
      simp only [A0, nc, Nat.zero_add, Nat.mul_one, e1, e2]
      exact ⟨.inl rfl, .inl rfl, .inl rfl, .inl (congrArg (fun n => DV.d (.sc (.int .i64 n))) hto2), .inl (congrArg (fun n => DV.d (.sc (.int .i64 n))) hk0), .inl rfl, .inl rfl, trivial⟩
    rintro R2 ⟨k, acc2, o2⟩ hR2 ⟨hk, hL2, hl2, ho2⟩
    replace hk : 0 ≤ k ∧ k ≤ 9223372036854775807 := hk
    replace hL2 : L = listR r k (to - k).toNat acc2 := hL2
    replace hl2 : acc2.length ≤ 1000 := hl2
    replace ho2 : o2 = none ∧ acc2 = [] ∨ ∃ cs v m, o2 = some (cs, v, m) ∧ cs = rowsD (instsX acc2) ∧ m = acc2.length := by
      rcases o2 with _ | ⟨cs, v, m⟩
      · exact .inl ⟨rfl, ho2⟩
      · exact .inr ⟨cs, v, m, rfl, ho2⟩
    rcases ho2 with ⟨rfl, ho2⟩ | ⟨cs2, v2, m2, rfl, hcs2, hm2⟩ <;>
    cbv
    all_goals
      repeat' first
        | (refine part (fun h => ?_) (fun h => ?_) <;> try cbv)
        | (refine And.intro ?_ ?_)
    all_goals replace hk : 0 ≤ k ∧ k ≤ 9223372036854775807 := hk
    all_goals replace hr : 0 ≤ r ∧ r ≤ 7 := hr
    all_goals have er : IntKind.wrap .i64 (r + 1) = r + 1 := wrap_i64 (by unfold r64; omega)
    all_goals have g1 : (0 : Int) ≤ r + 1 := by omega
    all_goals have g2 : r + 1 ≤ 7 := by omega
    all_goals have g3 : 7 - (r + 1).toNat < 7 - r.toNat := by omega
    all_goals subst hA hR2 hR
    all_goals simp only [A0, nc] at *
    all_goals first
      | (intros; first | assumption | trivial | omega | (simp_all; done))
      | (refine ⟨by omega, by omega⟩)
      | (have hz : ∀ x ∈ instsX acc2, x.length = 2 := by
           intro x hx
           simp only [instsX, List.mem_map] at hx
           obtain ⟨_, _, rfl⟩ := hx
           rfl
         rw [hcs2, rowsD_len hz, hm2, instsX_length]
         done)
      | (have hc := ‹(bif decide (k < to) then decide _ else false) = true›
         simp only [cond_eq_ite, Bool.ite_eq_true_distrib, decide_eq_true_eq, Bool.if_false_right, Bool.and_eq_true] at hc
         obtain ⟨hc1, hc2⟩ := hc
         have ek : IntKind.wrap .i64 (k + 1) = k + 1 := wrap_i64 (by unfold r64; omega)
         have gk1 : (0 : Int) ≤ k + 1 := by omega
         have gk2 : k + 1 ≤ 9223372036854775807 := by omega
         have gk3 : (to - (k + 1)).toNat < (to - k).toNat := by omega
         first
           | (subst ho2
              have hs := listR_step (r := r) (out := []) hc1 (by simp)
              refine ⟨(k + 1, [⟨r, k + 1⟩], some (rowsD (instsX [⟨r, k + 1⟩]), 0, 1)), ⟨⟨gk1, gk2⟩, hL2.trans hs, by simp, rfl, rfl⟩, gk3, told_keep [0, 1, 3] rfl ?_ ?_⟩
              · simp [keepSt, pullBox, pullL_eq, pullD, liT, hdc, hfc, dC, rowsD, instsX, Inst.row, ek]
              · simp only [ek]
                exact ⟨.inl rfl, .inl rfl, .inl rfl, .inl rfl, .inl rfl, .inl (by show DV.agg dc = pullD _ (DV.agg dc); rw [hdc]; rfl), .inl rfl, trivial⟩))
      | (have hc := ‹(bif decide (k < to) then decide _ else false) = false›
         have hne : ¬ (k < to ∧ acc2.length < 1000) := by
           rintro ⟨q1, q2⟩
           first
             | (subst ho2; simp [q1] at hc; done)
             | (have : decide ((m2 : Int) < 1000) = true := by simp; omega
                simp [q1, this] at hc)
         have hs := listR_end (r := r) hne
         have hLL : acc2 = L := by rw [hL2]; exact hs.symm
         first
           | (refine ⟨(r + 1, acc2, none), ⟨⟨g1, g2⟩, by rw [hLL, hLe], ho2⟩, g3, told_keep [0, 1] rfl ?_ ?_⟩
              · simp [keepSt, pullBox, pullL_eq, pullD, liT, hdc, hfc, dC]
              · simp only [er]
                exact ⟨.inl rfl, .inl rfl, .inl (by show DV.agg dc = pullD _ (DV.agg dc); rw [hdc]; rfl), .inl rfl, trivial⟩)
           | (refine ⟨(r + 1, acc2, some (cs2, v2, m2)), ⟨⟨g1, g2⟩, by rw [hLL, hLe], hcs2, hm2⟩, g3, told_keep [0, 1, 2] rfl ?_ ?_⟩
              · simp [keepSt, pullBox, pullL_eq, pullD, liT, hdc, hfc, dC, hcs2, pull_rows]
              · simp only [er]
                exact ⟨.inl rfl, .inl rfl, .inl (by show DV.agg dc = pullD _ (DV.agg dc); rw [hdc]; rfl), .inl rfl, trivial⟩))
      | skip
    · have hc := ‹(bif decide (k < to) then decide _ else false) = true›
      simp only [cond_eq_ite, Bool.ite_eq_true_distrib, decide_eq_true_eq, Bool.if_false_right, Bool.and_eq_true] at hc
      obtain ⟨hc1, hc2⟩ := hc
      have ek : IntKind.wrap .i64 (k + 1) = k + 1 := wrap_i64 (by unfold r64; omega)
      have gk1 : (0 : Int) ≤ k + 1 := by omega
      have gk2 : k + 1 ≤ 9223372036854775807 := by omega
      have gk3 : (to - (k + 1)).toNat < (to - k).toNat := by omega
      have hl3 : acc2.length < 1000 := by omega
      have hs := listR_step (r := r) (out := acc2) hc1 hl3
      refine ⟨(k + 1, acc2 ++ [⟨r, k + 1⟩], some (cs2 ++ rowsD (instsX [⟨r, k + 1⟩]), v2 + 1, m2 + 1)), ⟨⟨gk1, gk2⟩, hL2.trans hs, by show (acc2 ++ [_]).length ≤ 1000; rw [List.length_append, List.length_singleton]; omega, ⟨by rw [hcs2, ← rowsD_append]; simp [instsX], by rw [hm2]; simp⟩⟩, gk3, told_keep [0, 1, 2] rfl ?_ ?_⟩
      · have hr2 : rowsD (instsX [⟨r, k + 1⟩]) = [.d (.sc (.int .i64 r)), .d (.sc (.int .i64 (k + 1)))] := rfl
        simp [keepSt, pullBox, pullL_eq, pullD, liT, hdc, hfc, dC, hcs2, pull_rows, hr2, ek]
      · simp only [ek]
        exact ⟨.inl rfl, .inl rfl, .inl rfl, .inl rfl, .inl rfl, .inl (by show DV.agg dc = pullD _ (DV.agg dc); rw [hdc]; rfl), .inl rfl, trivial⟩
  · have hr7 : r < 7 := by
      subst hA
      simpa only [A0, nc, decide_eq_true_eq] using h
    have e1 := dC_at D hr.1 hr7
    have e2 := dC_at G hr.1 hr7
    rw [← hdc] at e1
    rw [← hfc] at e2
    have hto := hd.at r
    have hfr := hf.at r
    obtain ⟨to, hto2⟩ : ∃ to, to = D.at r := ⟨_, rfl⟩
    obtain ⟨k0, hk0⟩ : ∃ k0, k0 = max (G.at r) 0 := ⟨_, rfl⟩
    have hkr : 0 ≤ k0 ∧ k0 ≤ 9223372036854775807 := by unfold r64 at hfr; omega
    rw [← hto2] at hto
    unfold r64 at hto
    have hL : listN D G (r + 1).toNat = listR r k0 (to - k0).toNat acc := by
      rw [show (r + 1).toNat = r.toNat + 1 by omega, listN, ← hacc, show ((r.toNat : Nat) : Int) = r by omega, hto2, hk0]
    have hlen : acc.length ≤ 1000 := by rw [hacc]; exact listN_len D G _
    obtain ⟨L, hLe⟩ : ∃ L, L = listN D G (r + 1).toNat := ⟨_, rfl⟩
    rw [← hLe] at hL
    refine loopL (T := fun _ => tabY [15] []) (H := fun _ => []) (tabY_ok _ _) noK_ok follows_mixed hA hX (fun x : Int × List Inst × Option (List DV × Nat × Nat) => (0 ≤ x.1 ∧ x.1 ≤ 9223372036854775807) ∧ L = listR r x.1 (to - x.1).toNat x.2.1 ∧ x.2.1.length ≤ 1000 ∧ liI x.2.1 x.2.2 ∧ x.2.2.isSome = true)
      (fun x => [(3, .ref 1 0 0), (5, liS x.2.2), (6, .d (.sc (.int .i64 r))), (7, .d (.sc (.int .i64 to))), (8, .d (.sc (.int .i64 x.1))), (9, .agg dc), (10, .d (.sc (.int .i64 r)))]) (fun x => [⟨23, dc, false, 0, true⟩, ⟨23, fc, false, 0, true⟩] ++ liT x.2.2)
      (fun x => (to - x.1).toNat) (k0, acc, some (cs, v, m)) ?_ ?_ ?_
    · exact ⟨hkr, hL, hlen, ⟨hcs, hm⟩, rfl⟩
    · subst hA
      refine told_less ?_
      simp only [A0, nc, Nat.zero_add, Nat.mul_one, e1, e2]
      exact ⟨.inl rfl, .inl rfl, .inl rfl, .inl (congrArg (fun n => DV.d (.sc (.int .i64 n))) hto2), .inl (congrArg (fun n => DV.d (.sc (.int .i64 n))) hk0), .inl rfl, .inl rfl, trivial⟩
    rintro R2 ⟨k, acc2, o2⟩ hR2 ⟨hk, hL2, hl2, ho2, hsome⟩
    replace hk : 0 ≤ k ∧ k ≤ 9223372036854775807 := hk
    replace hL2 : L = listR r k (to - k).toNat acc2 := hL2
    replace hl2 : acc2.length ≤ 1000 := hl2
    replace ho2 : o2 = none ∧ acc2 = [] ∨ ∃ cs v m, o2 = some (cs, v, m) ∧ cs = rowsD (instsX acc2) ∧ m = acc2.length := by
      rcases o2 with _ | ⟨cs, v, m⟩
      · exact .inl ⟨rfl, ho2⟩
      · exact .inr ⟨cs, v, m, rfl, ho2⟩
    rcases ho2 with ⟨rfl, ho2⟩ | ⟨cs2, v2, m2, rfl, hcs2, hm2⟩
    · cases hsome
    cbv
    all_goals
      repeat' first
        | (refine part (fun h => ?_) (fun h => ?_) <;> try cbv)
        | (refine And.intro ?_ ?_)
    all_goals replace hk : 0 ≤ k ∧ k ≤ 9223372036854775807 := hk
    all_goals replace hr : 0 ≤ r ∧ r ≤ 7 := hr
    all_goals have er : IntKind.wrap .i64 (r + 1) = r + 1 := wrap_i64 (by unfold r64; omega)
    all_goals have g1 : (0 : Int) ≤ r + 1 := by omega
    all_goals have g2 : r + 1 ≤ 7 := by omega
    all_goals have g3 : 7 - (r + 1).toNat < 7 - r.toNat := by omega
    all_goals subst hA hR2 hR
    all_goals simp only [A0, nc] at *
    all_goals first
      | (intros; first | assumption | trivial | omega | (simp_all; done))
      | (refine ⟨by omega, by omega⟩)
      | (have hz : ∀ x ∈ instsX acc2, x.length = 2 := by
           intro x hx
           simp only [instsX, List.mem_map] at hx
           obtain ⟨_, _, rfl⟩ := hx
           rfl
         rw [hcs2, rowsD_len hz, hm2, instsX_length]
         done)
      | (have hc := ‹(bif decide (k < to) then decide _ else false) = true›
         simp only [cond_eq_ite, Bool.ite_eq_true_distrib, decide_eq_true_eq, Bool.if_false_right, Bool.and_eq_true] at hc
         obtain ⟨hc1, hc2⟩ := hc
         have ek : IntKind.wrap .i64 (k + 1) = k + 1 := wrap_i64 (by unfold r64; omega)
         have gk1 : (0 : Int) ≤ k + 1 := by omega
         have gk2 : k + 1 ≤ 9223372036854775807 := by omega
         have gk3 : (to - (k + 1)).toNat < (to - k).toNat := by omega
         first
           | (subst ho2
              have hs := listR_step (r := r) (out := []) hc1 (by simp)
              refine ⟨(k + 1, [⟨r, k + 1⟩], some (rowsD (instsX [⟨r, k + 1⟩]), 0, 1)), ⟨⟨gk1, gk2⟩, hL2.trans hs, by simp, rfl, rfl⟩, gk3, told_keep [0, 1, 3] rfl ?_ ?_⟩
              · simp [keepSt, pullBox, pullL_eq, pullD, liT, hdc, hfc, dC, rowsD, instsX, Inst.row, ek]
              · simp only [ek]
                exact ⟨.inl rfl, .inl rfl, .inl rfl, .inl rfl, .inl rfl, .inl (by show DV.agg dc = pullD _ (DV.agg dc); rw [hdc]; rfl), .inl rfl, trivial⟩))
      | (have hc := ‹(bif decide (k < to) then decide _ else false) = false›
         have hne : ¬ (k < to ∧ acc2.length < 1000) := by
           rintro ⟨q1, q2⟩
           first
             | (subst ho2; simp [q1] at hc; done)
             | (have : decide ((m2 : Int) < 1000) = true := by simp; omega
                simp [q1, this] at hc)
         have hs := listR_end (r := r) hne
         have hLL : acc2 = L := by rw [hL2]; exact hs.symm
         first
           | (refine ⟨(r + 1, acc2, none), ⟨⟨g1, g2⟩, by rw [hLL, hLe], ho2⟩, g3, told_keep [0, 1] rfl ?_ ?_⟩
              · simp [keepSt, pullBox, pullL_eq, pullD, liT, hdc, hfc, dC]
              · simp only [er]
                exact ⟨.inl rfl, .inl rfl, .inl (by show DV.agg dc = pullD _ (DV.agg dc); rw [hdc]; rfl), .inl rfl, trivial⟩)
           | (refine ⟨(r + 1, acc2, some (cs2, v2, m2)), ⟨⟨g1, g2⟩, by rw [hLL, hLe], hcs2, hm2⟩, g3, told_keep [0, 1, 2] rfl ?_ ?_⟩
              · simp [keepSt, pullBox, pullL_eq, pullD, liT, hdc, hfc, dC, hcs2, pull_rows]
              · simp only [er]
                exact ⟨.inl rfl, .inl rfl, .inl (by show DV.agg dc = pullD _ (DV.agg dc); rw [hdc]; rfl), .inl rfl, trivial⟩))
      | skip
    · have hc := ‹(bif decide (k < to) then decide _ else false) = true›
      simp only [cond_eq_ite, Bool.ite_eq_true_distrib, decide_eq_true_eq, Bool.if_false_right, Bool.and_eq_true] at hc
      obtain ⟨hc1, hc2⟩ := hc
      have ek : IntKind.wrap .i64 (k + 1) = k + 1 := wrap_i64 (by unfold r64; omega)
      have gk1 : (0 : Int) ≤ k + 1 := by omega
      have gk2 : k + 1 ≤ 9223372036854775807 := by omega
      have gk3 : (to - (k + 1)).toNat < (to - k).toNat := by omega
      have hl3 : acc2.length < 1000 := by omega
      have hs := listR_step (r := r) (out := acc2) hc1 hl3
      refine ⟨(k + 1, acc2 ++ [⟨r, k + 1⟩], some (cs2 ++ rowsD (instsX [⟨r, k + 1⟩]), v2 + 1, m2 + 1)), ⟨⟨gk1, gk2⟩, hL2.trans hs, by show (acc2 ++ [_]).length ≤ 1000; rw [List.length_append, List.length_singleton]; omega, ⟨by rw [hcs2, ← rowsD_append]; simp [instsX], by rw [hm2]; simp⟩, rfl⟩, gk3, told_keep [0, 1, 2] rfl ?_ ?_⟩
      · have hr2 : rowsD (instsX [⟨r, k + 1⟩]) = [.d (.sc (.int .i64 r)), .d (.sc (.int .i64 (k + 1)))] := rfl
        simp [keepSt, pullBox, pullL_eq, pullD, liT, hdc, hfc, dC, hcs2, pull_rows, hr2, ek]
      · simp only [ek]
        exact ⟨.inl rfl, .inl rfl, .inl rfl, .inl rfl, .inl rfl, .inl (by show DV.agg dc = pullD _ (DV.agg dc); rw [hdc]; rfl), .inl rfl, trivial⟩
def kn_list (F : FsI) : FuncId × (List DV → RV) := (12, fun args => match args with
  | [.agg [.d (.sc (.int .i64 d_d0)), .d (.sc (.int .i64 d_d1)), .d (.sc (.int .i64 d_d2)), .d (.sc (.int .i64 d_d3)), .d (.sc (.int .i64 d_d4)), .d (.sc (.int .i64 d_d5)), .d (.sc (.int .i64 d_d6))], .agg [.d (.sc (.int .i64 f_d0)), .d (.sc (.int .i64 f_d1)), .d (.sc (.int .i64 f_d2)), .d (.sc (.int .i64 f_d3)), .d (.sc (.int .i64 f_d4)), .d (.sc (.int .i64 f_d5)), .d (.sc (.int .i64 f_d6))]] => some ([F.rDeps ⟨d_d0, d_d1, d_d2, d_d3, d_d4, d_d5, d_d6⟩, F.rDeps ⟨f_d0, f_d1, f_d2, f_d3, f_d4, f_d5, f_d6⟩], .d (.slc 2 (F.list ⟨d_d0, d_d1, d_d2, d_d3, d_d4, d_d5, d_d6⟩ ⟨f_d0, f_d1, f_d2, f_d3, f_d4, f_d5, f_d6⟩)))
  | _ => none)
theorem ok_list (args : List DV) (cs : List Prop) (r : DV) (h : (kn_list FsI0).2 args = some (cs, r)) (hc : allP cs True) : FnV Try.prog 12 args r ∧ closedL 0 args = true := by
  unfold kn_list at h
  simp only at h
  split at h
  · cases h; exact ⟨v_list ⟨_, _, _, _, _, _, _⟩ ⟨_, _, _, _, _, _, _⟩ hc.1 hc.2.1, rfl⟩
  · cases h
end Go.Proofs.Ytikodmddomaneaa
