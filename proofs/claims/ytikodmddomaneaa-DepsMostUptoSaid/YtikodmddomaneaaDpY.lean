/- The instances that a row reaches, and another one does not. No condition. -/
import Derived.Test.YtikodmddomaneaaDp4
import Derived.Test.YtikodmddomaneaaAm35
namespace Go.Proofs.Ytikodmddomaneaa
open Go.RowKit
set_option linter.all false
set_option maxHeartbeats 4000000
def Inst.row (i : Inst) : List PD := [.sc (.int .i64 i.replica), .sc (.int .i64 i.slot)]
def instsX (l : List Inst) : List (List PD) := l.map Inst.row
def isIn (xs : List (List PD)) : Prop := ∃ l : List Inst, xs = instsX l ∧ l.length ≤ 4194304
theorem isIn.len {xs : List (List PD)} (h : isIn xs) : xs.length ≤ 4194304 := by obtain ⟨l, rfl, h⟩ := h; simpa [instsX] using h
theorem isIn.sz {xs : List (List PD)} (h : isIn xs) : ∀ x ∈ xs, x.length = 2 := by
  obtain ⟨l, rfl, _⟩ := h
  intro x hx
  simp only [instsX, List.mem_map] at hx
  obtain ⟨_, _, rfl⟩ := hx
  rfl
theorem instsX_length (l : List Inst) : (instsX l).length = l.length := by simp [instsX]
def listR (r : Int) (k : Int) : Nat → List Inst → List Inst
  | 0, out => out
  | n + 1, out => if out.length < 1000 then listR r (k + 1) n (out ++ [⟨r, k + 1⟩]) else out
def listN (d f : Deps) : Nat → List Inst
  | 0 => []
  | n + 1 => listR n (max (f.at n) 0) (d.at n - max (f.at n) 0).toNat (listN d f n)
def listD (d f : Deps) : List Inst := listN d f 7
def rDeps (d : Deps) : Prop := r64 d.d0 ∧ r64 d.d1 ∧ r64 d.d2 ∧ r64 d.d3 ∧ r64 d.d4 ∧ r64 d.d5 ∧ r64 d.d6
theorem rDeps.at {d : Deps} (h : rDeps d) (r : Int) : r64 (d.at r) := by
  obtain ⟨h0, h1, h2, h3, h4, h5, h6⟩ := h
  unfold Deps.at
  split
  · exact h0
  split
  · exact h1
  split
  · exact h2
  split
  · exact h3
  split
  · exact h4
  split
  · exact h5
  · exact h6
theorem listR_step {r k to : Int} {out : List Inst} (h : k < to) (hl : out.length < 1000) : listR r k (to - k).toNat out = listR r (k + 1) (to - (k + 1)).toNat (out ++ [⟨r, k + 1⟩]) := by
  rw [show (to - k).toNat = (to - (k + 1)).toNat + 1 by omega, listR, if_pos hl]
theorem listR_end {r k to : Int} {out : List Inst} (h : ¬ (k < to ∧ out.length < 1000)) : listR r k (to - k).toNat out = out := by
  cases hn : (to - k).toNat with
  | zero => rfl
  | succ n => rw [listR, if_neg (by omega)]
theorem listR_len (r : Int) : ∀ (n : Nat) (k : Int) (out : List Inst), out.length ≤ 1000 → (listR r k n out).length ≤ 1000
  | 0, _, _, h => h
  | n + 1, k, out, h => by
      unfold listR
      split
      · exact listR_len r n _ _ (by simp; omega)
      · exact h
theorem listN_len (d f : Deps) : ∀ n, (listN d f n).length ≤ 1000
  | 0 => by simp [listN]
  | n + 1 => listR_len _ _ _ _ (listN_len d f n)
theorem list_isIn (d f : Deps) : isIn (instsX (listD d f)) := ⟨_, rfl, Nat.le_trans (listN_len d f 7) (by decide)⟩
theorem load1 {l : List DV} {i : Nat} {d : DV} (h : l[i]? = some d) : i + 1 ≤ l.length ∧ List.take 1 (List.drop i l) = [d] := by
  have hl : i < l.length := (List.getElem?_eq_some_iff.1 h).1
  refine ⟨hl, ?_⟩
  rw [List.drop_eq_getElem_cons hl]
  simp [(List.getElem?_eq_some_iff.1 h).2]
def liS : Option (List DV × Nat × Nat) → DV
  | none => .d (.sc (.slice none 0 0))
  | some (_, v, m) => .view 2 2 v 0 m
def liI (acc : List Inst) : Option (List DV × Nat × Nat) → Prop
  | none => acc = []
  | some (cs, _, m) => cs = rowsD (instsX acc) ∧ m = acc.length
def liT : Option (List DV × Nat × Nat) → Store
  | none => []
  | some (cs, v, _) => [⟨34, cs, true, v, true⟩]
def dC (d : Deps) : List DV := [.d (.sc (.int .i64 d.d0)), .d (.sc (.int .i64 d.d1)), .d (.sc (.int .i64 d.d2)), .d (.sc (.int .i64 d.d3)), .d (.sc (.int .i64 d.d4)), .d (.sc (.int .i64 d.d5)), .d (.sc (.int .i64 d.d6))]
theorem dC_at (d : Deps) {r : Int} (h0 : 0 ≤ r) (h1 : r < 7) : (dC d)[r.toNat]? = some (.d (.sc (.int .i64 (d.at r)))) := by
  have : r = 0 ∨ r = 1 ∨ r = 2 ∨ r = 3 ∨ r = 4 ∨ r = 5 ∨ r = 6 := by omega
  rcases this with rfl | rfl | rfl | rfl | rfl | rfl | rfl <;> rfl

structure FsI where
  list : Deps → Deps → List (List PD)
  rDeps : Deps → Prop
def FsI0 : FsI where
  list := fun d f => instsX (listD d f)
  rDeps := rDeps
set_option maxRecDepth 100000 in
theorem v_list (d : Deps) (f : Deps) (hp0 : FsI0.rDeps d) (hp1 : FsI0.rDeps f) : FnV Try.prog 12 [Deps.D d, Deps.D f] (.d (.slc 2 ((fun d f => instsX (listD d f)) d f))) := by
  obtain ⟨d_d0, d_d1, d_d2, d_d3, d_d4, d_d5, d_d6⟩ := d
  obtain ⟨f_d0, f_d1, f_d2, f_d3, f_d4, f_d5, f_d6⟩ := f
  have hd : rDeps ⟨d_d0, d_d1, d_d2, d_d3, d_d4, d_d5, d_d6⟩ := hp0
  have hf : rDeps ⟨f_d0, f_d1, f_d2, f_d3, f_d4, f_d5, f_d6⟩ := hp1
  obtain ⟨D, hD⟩ : ∃ D : Deps, D = ⟨d_d0, d_d1, d_d2, d_d3, d_d4, d_d5, d_d6⟩ := ⟨_, rfl⟩
  obtain ⟨G, hG⟩ : ∃ G : Deps, G = ⟨f_d0, f_d1, f_d2, f_d3, f_d4, f_d5, f_d6⟩ := ⟨_, rfl⟩
  rw [← hD] at hd
  rw [← hG] at hf
  obtain ⟨dc, hdc⟩ : ∃ dc, dc = dC D := ⟨_, rfl⟩
  obtain ⟨fc, hfc⟩ : ∃ fc, fc = dC G := ⟨_, rfl⟩
  refine FnD_cbv (T := fun _ => tabY [15] []) (H := fun _ => []) (tabY_ok _ _) noK_ok follows_mixed Try.func12 rfl Try.ntmps12 (by simp) fun A X W hA hX hW => ?_
  cbv
  refine loopL (T := fun _ => tabY [15] []) (H := fun _ => []) (tabY_ok _ _) noK_ok follows_mixed hA hX (fun x : Int × List Inst × Option (List DV × Nat × Nat) => (0 ≤ x.1 ∧ x.1 ≤ 7) ∧ x.2.1 = listN D G x.1.toNat ∧ liI x.2.1 x.2.2)
    (fun x => [(3, .ref 1 0 0), (5, liS x.2.2), (9, .agg dc), (10, .d (.sc (.int .i64 x.1)))]) (fun x => [⟨23, dc, false, 0, true⟩, ⟨23, fc, false, 0, true⟩] ++ liT x.2.2)
    (fun x => 7 - x.1.toNat) (0, [], none) ?_ ?_ ?_
  · exact ⟨⟨by decide, by decide⟩, rfl, rfl⟩
  · subst hA hdc hfc hD hG; exact told_less (by simp [toldP, getS, A0, liS, dC])
  rintro R ⟨r, acc, o⟩ hR ⟨hr, hacc, ho⟩
  replace hr : 0 ≤ r ∧ r ≤ 7 := hr
  replace hacc : acc = listN D G r.toNat := hacc
  replace ho : o = none ∧ acc = [] ∨ ∃ cs v m, o = some (cs, v, m) ∧ cs = rowsD (instsX acc) ∧ m = acc.length := by
    rcases o with _ | ⟨cs, v, m⟩
    · exact .inl ⟨rfl, ho⟩
    · exact .inr ⟨cs, v, m, rfl, ho⟩
  rcases ho with ⟨rfl, ho⟩ | ⟨cs, v, m, rfl, hcs, hm⟩ <;>
  cbv
  all_goals
    repeat' first
      | (refine part (fun h => ?_) (fun h => ?_) <;> try cbv)
      | (refine And.intro ?_ ?_)
  all_goals try (subst hA; simp only [A0]; done)
  all_goals try
    (have hX2 := hX
     subst hA hX hW hR
     simp only [A0, nc, decide_eq_true_eq, decide_eq_false_iff_not] at *
     first
       | rfl
       | (have hr7 : r < 7 := by omega
          have e1 := dC_at D hr.1 hr7
          have e2 := dC_at G hr.1 hr7
          rw [← hdc] at e1
          rw [← hfc] at e2
          first
            | exact ⟨hr.1, by omega⟩
            | (simp only [Nat.zero_add, Nat.mul_one, e1]; exact ⟨rfl, load1 e1⟩)
            | (simp only [Nat.zero_add, Nat.mul_one, e2]; exact ⟨rfl, load1 e2⟩))
       | (have hr7 : r = 7 := by omega
          subst hr7
          have hL : acc = listD D G := hacc
          show RetW 0 _ _ _
          rw [← hD, ← hG]
          first
            | (subst ho; rw [← hL]; exact ret_nil rfl)
            | (refine ret_slice (bx := ⟨34, cs, true, v, true⟩) (xs := instsX acc) rfl rfl rfl ?_ hcs ?_ ?_
               · rw [hm, instsX_length]
               · intro x hx
                 simp only [instsX, List.mem_map] at hx
                 obtain ⟨_, _, rfl⟩ := hx
                 rfl
               · rw [← hL])))

  · have hr7 : r < 7 := by
      subst hA
      simpa only [A0, nc, decide_eq_true_eq] using h
    have e1 := dC_at D hr.1 hr7
    have e2 := dC_at G hr.1 hr7
    rw [← hdc] at e1
    rw [← hfc] at e2
    have hto := hd.at r
    have hfr := hf.at r
    obtain ⟨to, hto2⟩ : ∃ to, to = D.at r := ⟨_, rfl⟩
    obtain ⟨k0, hk0⟩ : ∃ k0, k0 = max (G.at r) 0 := ⟨_, rfl⟩
    have hkr : 0 ≤ k0 ∧ k0 ≤ 9223372036854775807 := by unfold r64 at hfr; omega
    rw [← hto2] at hto
    unfold r64 at hto
    have hL : listN D G (r + 1).toNat = listR r k0 (to - k0).toNat acc := by
      rw [show (r + 1).toNat = r.toNat + 1 by omega, listN, ← hacc, show ((r.toNat : Nat) : Int) = r by omega, hto2, hk0]
    have hlen : acc.length ≤ 1000 := by rw [hacc]; exact listN_len D G _
    obtain ⟨L, hLe⟩ : ∃ L, L = listN D G (r + 1).toNat := ⟨_, rfl⟩
    rw [← hLe] at hL
    refine loopL (T := fun _ => tabY [15] []) (H := fun _ => []) (tabY_ok _ _) noK_ok follows_mixed hA hX (fun x : Int × List Inst × Option (List DV × Nat × Nat) => (0 ≤ x.1 ∧ x.1 ≤ 9223372036854775807) ∧ L = listR r x.1 (to - x.1).toNat x.2.1 ∧ x.2.1.length ≤ 1000 ∧ liI x.2.1 x.2.2)
      (fun x => [(3, .ref 1 0 0), (5, liS x.2.2), (6, .d (.sc (.int .i64 r))), (7, .d (.sc (.int .i64 to))), (8, .d (.sc (.int .i64 x.1))), (9, .agg dc), (10, .d (.sc (.int .i64 r)))]) (fun x => [⟨23, dc, false, 0, true⟩, ⟨23, fc, false, 0, true⟩] ++ liT x.2.2)
      (fun x => (to - x.1).toNat) (k0, acc, none) ?_ ?_ ?_
    · exact ⟨hkr, hL, hlen, ho⟩
    · subst hA
      refine told_less ?_
      simp only [A0, nc, Nat.zero_add, Nat.mul_one, e1, e2]
      exact ⟨.inl rfl, .inl rfl, .inl rfl, .inl (congrArg (fun n => DV.d (.sc (.int .i64 n))) hto2), .inl (congrArg (fun n => DV.d (.sc (.int .i64 n))) hk0), .inl rfl, .inl rfl, trivial⟩
    rintro R2 ⟨k, acc2, o2⟩ hR2 ⟨hk, hL2, hl2, ho2⟩
    replace hk : 0 ≤ k ∧ k ≤ 9223372036854775807 := hk
    replace hL2 : L = listR r k (to - k).toNat acc2 := hL2
    replace hl2 : acc2.length ≤ 1000 := hl2
    replace ho2 : o2 = none ∧ acc2 = [] ∨ ∃ cs v m, o2 = some (cs, v, m) ∧ cs = rowsD (instsX acc2) ∧ m = acc2.length := by
      rcases o2 with _ | ⟨cs, v, m⟩
      · exact .inl ⟨rfl, ho2⟩
      · exact .inr ⟨cs, v, m, rfl, ho2⟩
    rcases ho2 with ⟨rfl, ho2⟩ | ⟨cs2, v2, m2, rfl, hcs2, hm2⟩ <;>
    cbv
    all_goals
      repeat' first
        | (refine part (fun h => ?_) (fun h => ?_) <;> try cbv)
        | (refine And.intro ?_ ?_)
    all_goals replace hk : 0 ≤ k ∧ k ≤ 9223372036854775807 := hk
    all_goals replace hr : 0 ≤ r ∧ r ≤ 7 := hr
    all_goals have er : IntKind.wrap .i64 (r + 1) = r + 1 := wrap_i64 (by unfold r64; omega)
    all_goals have g1 : (0 : Int) ≤ r + 1 := by omega
    all_goals have g2 : r + 1 ≤ 7 := by omega
    all_goals have g3 : 7 - (r + 1).toNat < 7 - r.toNat := by omega
    all_goals subst hA hR2 hR
    all_goals simp only [A0, nc] at *
    all_goals first
      | (intros; first | assumption | trivial | omega | (simp_all; done))
      | (refine ⟨by omega, by omega⟩)
      | (have hz : ∀ x ∈ instsX acc2, x.length = 2 := by
           intro x hx
           simp only [instsX, List.mem_map] at hx
           obtain ⟨_, _, rfl⟩ := hx
           rfl
         rw [hcs2, rowsD_len hz, hm2, instsX_length]
         done)
      | (have hc := ‹(bif decide (k < to) then decide _ else false) = true›
         simp only [cond_eq_ite, Bool.ite_eq_true_distrib, decide_eq_true_eq, Bool.if_false_right, Bool.and_eq_true] at hc
         obtain ⟨hc1, hc2⟩ := hc
         have ek : IntKind.wrap .i64 (k + 1) = k + 1 := wrap_i64 (by unfold r64; omega)
         have gk1 : (0 : Int) ≤ k + 1 := by omega
         have gk2 : k + 1 ≤ 9223372036854775807 := by omega
         have gk3 : (to - (k + 1)).toNat < (to - k).toNat := by omega
         first
           | (subst ho2
              have hs := listR_step (r := r) (out := []) hc1 (by simp)
              refine ⟨(k + 1, [⟨r, k + 1⟩], some (rowsD (instsX [⟨r, k + 1⟩]), 0, 1)), ⟨⟨gk1, gk2⟩, hL2.trans hs, by simp, rfl, rfl⟩, gk3, told_keep [0, 1, 3] rfl ?_ ?_⟩
              · simp [keepSt, pullBox, pullL_eq, pullD, liT, hdc, hfc, dC, rowsD, instsX, Inst.row, ek]
              · simp only [ek]
                exact ⟨.inl rfl, .inl rfl, .inl rfl, .inl rfl, .inl rfl, .inl (by show DV.agg dc = pullD _ (DV.agg dc); rw [hdc]; rfl), .inl rfl, trivial⟩))
      | (have hc := ‹(bif decide (k < to) then decide _ else false) = false›
         have hne : ¬ (k < to ∧ acc2.length < 1000) := by
           rintro ⟨q1, q2⟩
           first
             | (subst ho2; simp [q1] at hc; done)
             | (have : decide ((m2 : Int) < 1000) = true := by simp; omega
                simp [q1, this] at hc)
         have hs := listR_end (r := r) hne
         have hLL : acc2 = L := by rw [hL2]; exact hs.symm
         first
           | (refine ⟨(r + 1, acc2, none), ⟨⟨g1, g2⟩, by rw [hLL, hLe], ho2⟩, g3, told_keep [0, 1] rfl ?_ ?_⟩
              · simp [keepSt, pullBox, pullL_eq, pullD, liT, hdc, hfc, dC]
              · simp only [er]
                exact ⟨.inl rfl, .inl rfl, .inl (by show DV.agg dc = pullD _ (DV.agg dc); rw [hdc]; rfl), .inl rfl, trivial⟩)
           | (refine ⟨(r + 1, acc2, some (cs2, v2, m2)), ⟨⟨g1, g2⟩, by rw [hLL, hLe], hcs2, hm2⟩, g3, told_keep [0, 1, 2] rfl ?_ ?_⟩
              · simp [keepSt, pullBox, pullL_eq, pullD, liT, hdc, hfc, dC, hcs2, pull_rows]
              · simp only [er]
                exact ⟨.inl rfl, .inl rfl, .inl (by show DV.agg dc = pullD _ (DV.agg dc); rw [hdc]; rfl), .inl rfl, trivial⟩))
      | skip
    · have hc := ‹(bif decide (k < to) then decide _ else false) = true›
      simp only [cond_eq_ite, Bool.ite_eq_true_distrib, decide_eq_true_eq, Bool.if_false_right, Bool.and_eq_true] at hc
      obtain ⟨hc1, hc2⟩ := hc
      have ek : IntKind.wrap .i64 (k + 1) = k + 1 := wrap_i64 (by unfold r64; omega)
      have gk1 : (0 : Int) ≤ k + 1 := by omega
      have gk2 : k + 1 ≤ 9223372036854775807 := by omega
      have gk3 : (to - (k + 1)).toNat < (to - k).toNat := by omega
      have hl3 : acc2.length < 1000 := by omega
      have hs := listR_step (r := r) (out := acc2) hc1 hl3
      refine ⟨(k + 1, acc2 ++ [⟨r, k + 1⟩], some (cs2 ++ rowsD (instsX [⟨r, k + 1⟩]), v2 + 1, m2 + 1)), ⟨⟨gk1, gk2⟩, hL2.trans hs, by show (acc2 ++ [_]).length ≤ 1000; rw [List.length_append, List.length_singleton]; omega, ⟨by rw [hcs2, ← rowsD_append]; simp [instsX], by rw [hm2]; simp⟩⟩, gk3, told_keep [0, 1, 2] rfl ?_ ?_⟩
      · have hr2 : rowsD (instsX [⟨r, k + 1⟩]) = [.d (.sc (.int .i64 r)), .d (.sc (.int .i64 (k + 1)))] := rfl
        simp [keepSt, pullBox, pullL_eq, pullD, liT, hdc, hfc, dC, hcs2, pull_rows, hr2, ek]
      · simp only [ek]
        exact ⟨.inl rfl, .inl rfl, .inl rfl, .inl rfl, .inl rfl, .inl (by show DV.agg dc = pullD _ (DV.agg dc); rw [hdc]; rfl), .inl rfl, trivial⟩
  · have hr7 : r < 7 := by
      subst hA
      simpa only [A0, nc, decide_eq_true_eq] using h
    have e1 := dC_at D hr.1 hr7
    have e2 := dC_at G hr.1 hr7
    rw [← hdc] at e1
    rw [← hfc] at e2
    have hto := hd.at r
    have hfr := hf.at r
    obtain ⟨to, hto2⟩ : ∃ to, to = D.at r := ⟨_, rfl⟩
    obtain ⟨k0, hk0⟩ : ∃ k0, k0 = max (G.at r) 0 := ⟨_, rfl⟩
    have hkr : 0 ≤ k0 ∧ k0 ≤ 9223372036854775807 := by unfold r64 at hfr; omega
    rw [← hto2] at hto
    unfold r64 at hto
    have hL : listN D G (r + 1).toNat = listR r k0 (to - k0).toNat acc := by
      rw [show (r + 1).toNat = r.toNat + 1 by omega, listN, ← hacc, show ((r.toNat : Nat) : Int) = r by omega, hto2, hk0]
    have hlen : acc.length ≤ 1000 := by rw [hacc]; exact listN_len D G _
    obtain ⟨L, hLe⟩ : ∃ L, L = listN D G (r + 1).toNat := ⟨_, rfl⟩
    rw [← hLe] at hL
    refine loopL (T := fun _ => tabY [15] []) (H := fun _ => []) (tabY_ok _ _) noK_ok follows_mixed hA hX (fun x : Int × List Inst × Option (List DV × Nat × Nat) => (0 ≤ x.1 ∧ x.1 ≤ 9223372036854775807) ∧ L = listR r x.1 (to - x.1).toNat x.2.1 ∧ x.2.1.length ≤ 1000 ∧ liI x.2.1 x.2.2 ∧ x.2.2.isSome = true)
      (fun x => [(3, .ref 1 0 0), (5, liS x.2.2), (6, .d (.sc (.int .i64 r))), (7, .d (.sc (.int .i64 to))), (8, .d (.sc (.int .i64 x.1))), (9, .agg dc), (10, .d (.sc (.int .i64 r)))]) (fun x => [⟨23, dc, false, 0, true⟩, ⟨23, fc, false, 0, true⟩] ++ liT x.2.2)
      (fun x => (to - x.1).toNat) (k0, acc, some (cs, v, m)) ?_ ?_ ?_
    · exact ⟨hkr, hL, hlen, ⟨hcs, hm⟩, rfl⟩
    · subst hA
      refine told_less ?_
      simp only [A0, nc, Nat.zero_add, Nat.mul_one, e1, e2]
      exact ⟨.inl rfl, .inl rfl, .inl rfl, .inl (congrArg (fun n => DV.d (.sc (.int .i64 n))) hto2), .inl (congrArg (fun n => DV.d (.sc (.int .i64 n))) hk0), .inl rfl, .inl rfl, trivial⟩
    rintro R2 ⟨k, acc2, o2⟩ hR2 ⟨hk, hL2, hl2, ho2, hsome⟩
    replace hk : 0 ≤ k ∧ k ≤ 9223372036854775807 := hk
    replace hL2 : L = listR r k (to - k).toNat acc2 := hL2
    replace hl2 : acc2.length ≤ 1000 := hl2
    replace ho2 : o2 = none ∧ acc2 = [] ∨ ∃ cs v m, o2 = some (cs, v, m) ∧ cs = rowsD (instsX acc2) ∧ m = acc2.length := by
      rcases o2 with _ | ⟨cs, v, m⟩
      · exact .inl ⟨rfl, ho2⟩
      · exact .inr ⟨cs, v, m, rfl, ho2⟩
    rcases ho2 with ⟨rfl, ho2⟩ | ⟨cs2, v2, m2, rfl, hcs2, hm2⟩
    · cases hsome
    cbv
    all_goals
      repeat' first
        | (refine part (fun h => ?_) (fun h => ?_) <;> try cbv)
        | (refine And.intro ?_ ?_)
    all_goals replace hk : 0 ≤ k ∧ k ≤ 9223372036854775807 := hk
    all_goals replace hr : 0 ≤ r ∧ r ≤ 7 := hr
    all_goals have er : IntKind.wrap .i64 (r + 1) = r + 1 := wrap_i64 (by unfold r64; omega)
    all_goals have g1 : (0 : Int) ≤ r + 1 := by omega
    all_goals have g2 : r + 1 ≤ 7 := by omega
    all_goals have g3 : 7 - (r + 1).toNat < 7 - r.toNat := by omega
    all_goals subst hA hR2 hR
    all_goals simp only [A0, nc] at *
    all_goals first
      | (intros; first | assumption | trivial | omega | (simp_all; done))
      | (refine ⟨by omega, by omega⟩)
      | (have hz : ∀ x ∈ instsX acc2, x.length = 2 := by
           intro x hx
           simp only [instsX, List.mem_map] at hx
           obtain ⟨_, _, rfl⟩ := hx
           rfl
         rw [hcs2, rowsD_len hz, hm2, instsX_length]
         done)
      | (have hc := ‹(bif decide (k < to) then decide _ else false) = true›
         simp only [cond_eq_ite, Bool.ite_eq_true_distrib, decide_eq_true_eq, Bool.if_false_right, Bool.and_eq_true] at hc
         obtain ⟨hc1, hc2⟩ := hc
         have ek : IntKind.wrap .i64 (k + 1) = k + 1 := wrap_i64 (by unfold r64; omega)
         have gk1 : (0 : Int) ≤ k + 1 := by omega
         have gk2 : k + 1 ≤ 9223372036854775807 := by omega
         have gk3 : (to - (k + 1)).toNat < (to - k).toNat := by omega
         first
           | (subst ho2
              have hs := listR_step (r := r) (out := []) hc1 (by simp)
              refine ⟨(k + 1, [⟨r, k + 1⟩], some (rowsD (instsX [⟨r, k + 1⟩]), 0, 1)), ⟨⟨gk1, gk2⟩, hL2.trans hs, by simp, rfl, rfl⟩, gk3, told_keep [0, 1, 3] rfl ?_ ?_⟩
              · simp [keepSt, pullBox, pullL_eq, pullD, liT, hdc, hfc, dC, rowsD, instsX, Inst.row, ek]
              · simp only [ek]
                exact ⟨.inl rfl, .inl rfl, .inl rfl, .inl rfl, .inl rfl, .inl (by show DV.agg dc = pullD _ (DV.agg dc); rw [hdc]; rfl), .inl rfl, trivial⟩))
      | (have hc := ‹(bif decide (k < to) then decide _ else false) = false›
         have hne : ¬ (k < to ∧ acc2.length < 1000) := by
           rintro ⟨q1, q2⟩
           first
             | (subst ho2; simp [q1] at hc; done)
             | (have : decide ((m2 : Int) < 1000) = true := by simp; omega
                simp [q1, this] at hc)
         have hs := listR_end (r := r) hne
         have hLL : acc2 = L := by rw [hL2]; exact hs.symm
         first
           | (refine ⟨(r + 1, acc2, none), ⟨⟨g1, g2⟩, by rw [hLL, hLe], ho2⟩, g3, told_keep [0, 1] rfl ?_ ?_⟩
              · simp [keepSt, pullBox, pullL_eq, pullD, liT, hdc, hfc, dC]
              · simp only [er]
                exact ⟨.inl rfl, .inl rfl, .inl (by show DV.agg dc = pullD _ (DV.agg dc); rw [hdc]; rfl), .inl rfl, trivial⟩)
           | (refine ⟨(r + 1, acc2, some (cs2, v2, m2)), ⟨⟨g1, g2⟩, by rw [hLL, hLe], hcs2, hm2⟩, g3, told_keep [0, 1, 2] rfl ?_ ?_⟩
              · simp [keepSt, pullBox, pullL_eq, pullD, liT, hdc, hfc, dC, hcs2, pull_rows]
              · simp only [er]
                exact ⟨.inl rfl, .inl rfl, .inl (by show DV.agg dc = pullD _ (DV.agg dc); rw [hdc]; rfl), .inl rfl, trivial⟩))
      | skip
    · have hc := ‹(bif decide (k < to) then decide _ else false) = true›
      simp only [cond_eq_ite, Bool.ite_eq_true_distrib, decide_eq_true_eq, Bool.if_false_right, Bool.and_eq_true] at hc
      obtain ⟨hc1, hc2⟩ := hc
      have ek : IntKind.wrap .i64 (k + 1) = k + 1 := wrap_i64 (by unfold r64; omega)
      have gk1 : (0 : Int) ≤ k + 1 := by omega
      have gk2 : k + 1 ≤ 9223372036854775807 := by omega
      have gk3 : (to - (k + 1)).toNat < (to - k).toNat := by omega
      have hl3 : acc2.length < 1000 := by omega
      have hs := listR_step (r := r) (out := acc2) hc1 hl3
      refine ⟨(k + 1, acc2 ++ [⟨r, k + 1⟩], some (cs2 ++ rowsD (instsX [⟨r, k + 1⟩]), v2 + 1, m2 + 1)), ⟨⟨gk1, gk2⟩, hL2.trans hs, by show (acc2 ++ [_]).length ≤ 1000; rw [List.length_append, List.length_singleton]; omega, ⟨by rw [hcs2, ← rowsD_append]; simp [instsX], by rw [hm2]; simp⟩, rfl⟩, gk3, told_keep [0, 1, 2] rfl ?_ ?_⟩
      · have hr2 : rowsD (instsX [⟨r, k + 1⟩]) = [.d (.sc (.int .i64 r)), .d (.sc (.int .i64 (k + 1)))] := rfl
        simp [keepSt, pullBox, pullL_eq, pullD, liT, hdc, hfc, dC, hcs2, pull_rows, hr2, ek]
      · simp only [ek]
        exact ⟨.inl rfl, .inl rfl, .inl rfl, .inl rfl, .inl rfl, .inl (by show DV.agg dc = pullD _ (DV.agg dc); rw [hdc]; rfl), .inl rfl, trivial⟩
def kn_list (F : FsI) : FuncId × (List DV → RV) := (12, fun args => match args with
  | [.agg [.d (.sc (.int .i64 d_d0)), .d (.sc (.int .i64 d_d1)), .d (.sc (.int .i64 d_d2)), .d (.sc (.int .i64 d_d3)), .d (.sc (.int .i64 d_d4)), .d (.sc (.int .i64 d_d5)), .d (.sc (.int .i64 d_d6))], .agg [.d (.sc (.int .i64 f_d0)), .d (.sc (.int .i64 f_d1)), .d (.sc (.int .i64 f_d2)), .d (.sc (.int .i64 f_d3)), .d (.sc (.int .i64 f_d4)), .d (.sc (.int .i64 f_d5)), .d (.sc (.int .i64 f_d6))]] => some ([F.rDeps ⟨d_d0, d_d1, d_d2, d_d3, d_d4, d_d5, d_d6⟩, F.rDeps ⟨f_d0, f_d1, f_d2, f_d3, f_d4, f_d5, f_d6⟩], .d (.slc 2 (F.list ⟨d_d0, d_d1, d_d2, d_d3, d_d4, d_d5, d_d6⟩ ⟨f_d0, f_d1, f_d2, f_d3, f_d4, f_d5, f_d6⟩)))
  | _ => none)
theorem ok_list (args : List DV) (cs : List Prop) (r : DV) (h : (kn_list FsI0).2 args = some (cs, r)) (hc : allP cs True) : FnV Try.prog 12 args r ∧ closedL 0 args = true := by
  unfold kn_list at h
  simp only at h
  split at h
  · cases h; exact ⟨v_list ⟨_, _, _, _, _, _, _⟩ ⟨_, _, _, _, _, _, _⟩ hc.1 hc.2.1, rfl⟩
  · cases h
end Go.Proofs.Ytikodmddomaneaa
namespace Go.Proofs.Ytikodmddomaneaa
open Go.RowKit
set_option linter.all false
def setF (T : Unit → Tab) (o : Op) (s : SL) : RV := match o with
  | .buildSlice t len parts => setV T t len (parts.toList.map fun p => (p.1, evL s p.2))
  | _ => none
def rowF (T : Unit → Tab) (A : Ar) (X : Cps) (H : Unit → Kn) (N : Nat) : List Oper → SL → Store → (SL → Store → Prop) → Prop
  | [], s, st, Q => Q s st
  | o :: rest, s, st, Q => match dstB N o.dst, o.guard with
    | true, none => match setF T o.op s with
      | some (cs, d) => allP cs (rowF T A X H N rest (putL o.dst d s) st Q)
      | none => opC T A X H o.op s st fun d st' => rowF T A X H N rest (putL o.dst d s) st' Q
    | _, _ => False
theorem setF_D {P : Program} {T : Unit → Tab} (hT : TabOk P (T ())) {o : Op} {s : SL} {st : Store} {cs : List Prop} {d : DV} (h : setF T o s = some (cs, d)) {K : DV → Store → Prop} (hk : K d st) : opD P o (getS s) st K := by
  unfold setF at h
  split at h
  · exact .inr (setV_D hT (K := fun d => K d st) h hk)
  · cases h
theorem rowF_ok {P : Program} {T : Unit → Tab} (hT : TabOk P (T ())) {H : Unit → Kn} (hH : SoundK P (H ())) {N : Nat} {ops : Array Oper} {Q : Exit → Act → World → Prop} : ∀ (l : List Oper) (s : SL) (E : Env) (a : Act) (K : SL → Store → Prop), Conc E → SlotsOk E N (getS s) a → rowF T A0 (X0 P N) H N l s E.st K →
    (∀ (s' : SL) (a' : Act) (E' : Env), K s' E'.st → Conc E' → Ext E E' → SlotsOk E' N (getS s') a' → Q .normal a' E'.w) → wpList P ops Q l a E.w
  | [], s, E, a, K, hc, hs, h, hn => hn s a E h hc (Ext.refl E) hs
  | o :: rest, s, E, a, K, hc, hs, h, hn => by
      unfold rowF at h
      split at h
      · rename_i hd hg
        have h1 : opD P o.op (getS s) E.st fun d st' => rowF T A0 (X0 P N) H N rest (putL o.dst d s) st' K := by
          split at h
          · rename_i cs d he
            exact setF_D hT he ((allP_iff _ _).1 h).2
          · exact opC_D hT hH h
        have e : (fun d st' => rowF T A0 (X0 P N) H N rest (putL o.dst d s) st' K) = fun d st' => rowF T A0 (X0 P N) H N rest (againL o.dst (putS o.dst d (getS s)) s) st' K ∧ getS (againL o.dst (putS o.dst d (getS s)) s) = putS o.dst d (getS s) := by
          funext d st'
          rw [againL_put, getS_putL]
          simp
        rw [e] at h1
        have hst : stepD P N ops o (getS s) E.st fun s' st' => rowF T A0 (X0 P N) H N rest (againL o.dst s' s) st' K ∧ getS (againL o.dst s' s) = s' := by
          unfold stepD
          have : wantedD ops o.guard (getS s) = some true := by rw [hg]; rfl
          simp only [this]
          exact ⟨dstB_ok hd, h1⟩
        have := step_ok (P := P) (Q := Q) (ops := ops) (next := wpList P ops Q rest) hc hs o hst fun s' a' E' hk h1 hx h3 => by
          rw [← hk.2] at h3
          exact rowF_ok hT hH rest _ E' a' K h1 h3 hk.1 fun s2 a2 E2 k1 k2 k3 k4 => hn s2 a2 E2 k1 k2 (Ext.trans hc.len h1.len hx k3) k4
        unfold wpList
        exact this
      · exact h.elim
theorem regionF {P : Program} {T : Unit → Tab} (hT : TabOk P (T ())) {H : Unit → Kn} (hH : SoundK P (H ())) {N : Nat} {Q : Exit → SL → Store → Prop} {s : SL} {st : Store} {id : Nat} {ops : Array Oper} {A : Ar} {X : Cps} (hA : A = A0) (hX : X = X0 P N)
    (h : rowF T A X H N ops.toList s st (Q .normal)) : X.st (.region id ops false) Q s st := by
  subst hA; subst hX
  obtain ⟨l⟩ := ops
  show wpD P N (.region id l.toArray false) (lessQ Q) (getS s) st
  refine region_less fun E a Q' hst hc hs hn => ?_
  subst hst
  exact rowF_ok hT hH l s E a _ hc hs h hn
end Go.Proofs.Ytikodmddomaneaa
namespace Go.Proofs.Ytikodmddomaneaa
open Go.RowKit
set_option linter.all false
set_option maxHeartbeats 4000000
def rowI : List PD → Inst
  | [.sc (.int _ r), .sc (.int _ s)] => ⟨r, s⟩
  | _ => ⟨0, 0⟩
def instsOf (xs : List (List PD)) : List Inst := xs.map rowI
theorem instsOf_X (l : List Inst) : instsOf (instsX l) = l := by
  induction l with
  | nil => rfl
  | cons a l ih =>
    have : instsOf (instsX (a :: l)) = a :: instsOf (instsX l) := rfl
    rw [this, ih]
theorem instsX_inj {a b : List Inst} : instsX a = instsX b ↔ a = b := ⟨fun h => by rw [← instsOf_X a, h, instsOf_X], fun h => by rw [h]⟩
theorem irow {xs : List (List PD)} {l : List Inst} (hxs : xs = instsX l) {i : Int} (h0 : 0 ≤ i) (h1 : i < l.length) : xs.getD i.toNat [] = (l[i.toNat]'(by omega)).row := by
  subst hxs
  have : i.toNat < l.length := by omega
  simp [instsX, List.getD_eq_getElem?_getD, this]
def sameI (xs ys : List (List PD)) : Bool := decide (instsOf xs = instsOf ys)
theorem attrsX_inj {a b : List Attr} : attrsX a = attrsX b ↔ a = b := ⟨fun h => by rw [← attrsOf_X a, h, attrsOf_X], fun h => by rw [h]⟩
def sameA (xs ys : List (List PD)) : Bool := decide (attrsOf xs = attrsOf ys)

structure FsQ where
  sameI : List (List PD) → List (List PD) → Bool
  sameA : List (List PD) → List (List PD) → Bool
  isIn : List (List PD) → Prop
  isAt : List (List PD) → Prop
def FsQ0 : FsQ where
  sameI := sameI
  sameA := sameA
  isIn := isIn
  isAt := isAt
set_option maxRecDepth 100000 in
theorem v_sameI (xs : List (List PD)) (ys : List (List PD)) (hp0 : FsQ0.isIn xs) (hp1 : FsQ0.isIn ys) : FnV Try.prog 15 [.d (.slc 2 xs), .d (.slc 2 ys)] (boolD ((sameI xs ys))) := by
  obtain ⟨ps, hxs, hb⟩ := hp0
  obtain ⟨qs, hys, hd⟩ := hp1
  have hlx : xs.length = ps.length := by rw [hxs]; exact instsX_length ps
  have hly : ys.length = qs.length := by rw [hys]; exact instsX_length qs
  have heq : xs = ys ↔ ps = qs := by rw [hxs, hys]; exact instsX_inj
  have hsame : sameI xs ys = decide (ps = qs) := by unfold sameI; rw [hxs, hys, instsOf_X, instsOf_X]
  rw [hsame]
  obtain ⟨sm, hsm⟩ : ∃ sm, sm = decide (ps = qs) := ⟨_, rfl⟩
  rw [← hsm]
  refine FnD_cbv (T := fun _ => tabY [19, 23] []) (H := fun _ => []) (tabY_ok _ _) noK_ok follows_mixed Try.func15 rfl Try.ntmps15 (by simp) fun A X W hA hX hW => ?_
  cbv
  refine part (fun h => ?_) (fun h => ?_)
  · cbv
    subst hA hX hW
    simp only [A0] at h
    refine ret_v ?_ rfl
    have hne : ¬ ps = qs := by
      intro e
      have e2 := heq.2 e
      subst e2
      simp at h
    subst hsm
    simp [boolD, hne]
  · cbv
    refine loopL (T := fun _ => tabY [19, 23] []) (H := fun _ => []) (tabY_ok _ _) noK_ok follows_mixed hA hX (fun i : Int => 0 ≤ i ∧ i ≤ ps.length ∧ ps.take i.toNat = qs.take i.toNat)
      (fun i => [(0, .d (.slc 2 xs)), (1, .d (.slc 2 ys)), (5, .d (.sc (.int .i64 i)))]) (fun _ => [])
      (fun i => (ps.length : Int).toNat - i.toNat) 0 ?_ ?_ ?_
    · exact ⟨by omega, by omega, by simp⟩
    · exact told_less (by simp [toldP, getS])
    rintro R i hR ⟨i0, i1, i2⟩
    cbv
    have hlen : ps.length = qs.length := by
      subst hA
      simp only [A0] at h
      simp only [Bool.not_eq_false', decide_eq_true_eq] at h
      omega
    repeat' first
      | (refine part (fun h => ?_) (fun h => ?_) <;> try cbv)
      | (refine And.intro ?_ ?_)
    all_goals subst hA hX hW hR
    all_goals simp only [A0, nc, decide_eq_true_eq, decide_eq_false_iff_not, Bool.not_eq_true', Bool.not_eq_false'] at *
    all_goals replace i1 : i ≤ (ps.length : Int) := i1
    all_goals replace hb : ps.length ≤ 4194304 := by first | exact hb | exact hb.1
    all_goals have ei : IntKind.wrap .i64 (i + 1) = i + 1 := wrap_i64 (by unfold r64; omega)
    all_goals try
      have hi : i < ps.length := by omega
      have hj : i.toNat < ps.length := by omega
      have hj2 : i.toNat < qs.length := by omega
      have hrx := irow hxs i0 hi
      have hry := irow hys i0 (by omega)
      have ht1 := List.take_succ_eq_append_getElem hj
      have ht2 := List.take_succ_eq_append_getElem hj2
      have hg1 : ps[i.toNat]? = some (ps[i.toNat]'(by omega)) := List.getElem?_eq_getElem hj
      have hg2 : qs[i.toNat]? = some (qs[i.toNat]'(by omega)) := List.getElem?_eq_getElem hj2
      generalize ps[i.toNat]'(by omega) = p at hrx ht1 hg1
      generalize qs[i.toNat]'(by omega) = q at hry ht2 hg2
      simp only [hrx, hry, Inst.row, List.map_cons, List.map_nil, Nat.zero_add, List.getElem?_cons_zero, List.getElem?_cons_succ] at *
    all_goals first
      | rfl
      | (show Region.lexB _ _ = true; kernel_rfl)
      | (show turnsB _ = true; kernel_rfl)
      | omega
      | (refine ⟨by omega, by omega⟩)
      | (simp; done)
      | (have h4 := ‹(decide (p.replica = q.replica) && (decide (p.slot = q.slot) && true)) = false›
         refine ret_v ?_ rfl
         have hne : ¬ ps = qs := by
           intro e
           subst e
           rw [hg1] at hg2
           cases hg2
           simp at h4
         subst hsm
         simp [boolD, hne]
         done)
      | (have h4 := ‹(decide (p.replica = q.replica) && (decide (p.slot = q.slot) && true)) = true›
         have he : p = q := by
           simp only [Bool.and_true, Bool.and_eq_true, decide_eq_true_eq] at h4
           obtain ⟨a0, a1⟩ := p
           obtain ⟨c0, c1⟩ := q
           simp only at h4
           simp [h4]
         refine ⟨i + 1, ⟨by omega, by omega, ?_⟩, ?_, told_less ?_⟩
         · rw [show (i + 1).toNat = i.toNat + 1 by omega, ht1, ht2, i2, he]
         · simp only [Int.toNat_natCast]
           omega
         · simp [toldP, getS, ei])
      | (replace h : ¬ i < (xs.length : Int) := h
         refine ret_v ?_ rfl
         have hil : i.toNat = ps.length := by omega
         rw [hil, List.take_length] at i2
         have e : ps = qs := by rw [i2, hlen, List.take_length]
         subst hsm
         simp [boolD, e])
def kn_sameI (F : FsQ) : FuncId × (List DV → RV) := (15, fun args => match args with
  | [.d (.slc 2 xs), .d (.slc 2 ys)] => some ([F.isIn xs, F.isIn ys], boolD ((F.sameI xs ys)))
  | [.d (.sc (.slice none 0 0)), .d (.slc 2 ys)] => some ([F.isIn [], F.isIn ys], boolD ((F.sameI [] ys)))
  | [.d (.slc 2 xs), .d (.sc (.slice none 0 0))] => some ([F.isIn xs, F.isIn []], boolD ((F.sameI xs [])))
  | [.d (.sc (.slice none 0 0)), .d (.sc (.slice none 0 0))] => some ([F.isIn [], F.isIn []], boolD ((F.sameI [] [])))
  | _ => none)
theorem ok_sameI (args : List DV) (cs : List Prop) (r : DV) (h : (kn_sameI FsQ0).2 args = some (cs, r)) (hc : allP cs True) : FnV Try.prog 15 args r ∧ closedL 0 args = true := by
  unfold kn_sameI at h
  simp only at h
  split at h
  · cases h; exact ⟨v_sameI _ _ hc.1 hc.2.1, rfl⟩
  · cases h; exact ⟨FnP.nils (v_sameI [] _ hc.1 hc.2.1) ⟨.inr ⟨rfl, _, rfl⟩, ⟨.inl rfl, trivial⟩⟩, rfl⟩
  · cases h; exact ⟨FnP.nils (v_sameI _ [] hc.1 hc.2.1) ⟨.inl rfl, ⟨.inr ⟨rfl, _, rfl⟩, trivial⟩⟩, rfl⟩
  · cases h; exact ⟨FnP.nils (v_sameI [] [] hc.1 hc.2.1) ⟨.inr ⟨rfl, _, rfl⟩, ⟨.inr ⟨rfl, _, rfl⟩, trivial⟩⟩, rfl⟩
  · cases h
set_option maxRecDepth 100000 in
theorem v_sameA (xs : List (List PD)) (ys : List (List PD)) (hp0 : FsQ0.isAt xs) (hp1 : FsQ0.isAt ys) : FnV Try.prog 33 [.d (.slc 8 xs), .d (.slc 8 ys)] (boolD ((sameA xs ys))) := by
  obtain ⟨ps, hxs, hb⟩ := hp0
  obtain ⟨qs, hys, hd⟩ := hp1
  have hlx : xs.length = ps.length := by rw [hxs]; exact attrsX_length ps
  have hly : ys.length = qs.length := by rw [hys]; exact attrsX_length qs
  have heq : xs = ys ↔ ps = qs := by rw [hxs, hys]; exact attrsX_inj
  have hsame : sameA xs ys = decide (ps = qs) := by unfold sameA; rw [hxs, hys, attrsOf_X, attrsOf_X]
  rw [hsame]
  obtain ⟨sm, hsm⟩ : ∃ sm, sm = decide (ps = qs) := ⟨_, rfl⟩
  rw [← hsm]
  refine FnD_cbv (T := fun _ => tabY [19, 23] []) (H := fun _ => []) (tabY_ok _ _) noK_ok follows_mixed Try.func33 rfl Try.ntmps33 (by simp) fun A X W hA hX hW => ?_
  cbv
  refine part (fun h => ?_) (fun h => ?_)
  · cbv
    subst hA hX hW
    simp only [A0] at h
    refine ret_v ?_ rfl
    have hne : ¬ ps = qs := by
      intro e
      have e2 := heq.2 e
      subst e2
      simp at h
    subst hsm
    simp [boolD, hne]
  · cbv
    refine loopL (T := fun _ => tabY [19, 23] []) (H := fun _ => []) (tabY_ok _ _) noK_ok follows_mixed hA hX (fun i : Int => 0 ≤ i ∧ i ≤ ps.length ∧ ps.take i.toNat = qs.take i.toNat)
      (fun i => [(0, .d (.slc 8 xs)), (1, .d (.slc 8 ys)), (5, .d (.sc (.int .i64 i)))]) (fun _ => [])
      (fun i => (ps.length : Int).toNat - i.toNat) 0 ?_ ?_ ?_
    · exact ⟨by omega, by omega, by simp⟩
    · exact told_less (by simp [toldP, getS])
    rintro R i hR ⟨i0, i1, i2⟩
    cbv
    have hlen : ps.length = qs.length := by
      subst hA
      simp only [A0] at h
      simp only [Bool.not_eq_false', decide_eq_true_eq] at h
      omega
    repeat' first
      | (refine part (fun h => ?_) (fun h => ?_) <;> try cbv)
      | (refine And.intro ?_ ?_)
    all_goals subst hA hX hW hR
    all_goals simp only [A0, nc, decide_eq_true_eq, decide_eq_false_iff_not, Bool.not_eq_true', Bool.not_eq_false'] at *
    all_goals replace i1 : i ≤ (ps.length : Int) := i1
    all_goals replace hb : ps.length ≤ 4194304 := by first | exact hb | exact hb.1
    all_goals have ei : IntKind.wrap .i64 (i + 1) = i + 1 := wrap_i64 (by unfold r64; omega)
    all_goals try
      have hi : i < ps.length := by omega
      have hj : i.toNat < ps.length := by omega
      have hj2 : i.toNat < qs.length := by omega
      have hrx := arow hxs i0 hi
      have hry := arow hys i0 (by omega)
      have ht1 := List.take_succ_eq_append_getElem hj
      have ht2 := List.take_succ_eq_append_getElem hj2
      have hg1 : ps[i.toNat]? = some (ps[i.toNat]'(by omega)) := List.getElem?_eq_getElem hj
      have hg2 : qs[i.toNat]? = some (qs[i.toNat]'(by omega)) := List.getElem?_eq_getElem hj2
      generalize ps[i.toNat]'(by omega) = p at hrx ht1 hg1
      generalize qs[i.toNat]'(by omega) = q at hry ht2 hg2
      simp only [hrx, hry, Attr.row, List.map_cons, List.map_nil, Nat.zero_add, List.getElem?_cons_zero, List.getElem?_cons_succ] at *
    all_goals first
      | rfl
      | (show Region.lexB _ _ = true; kernel_rfl)
      | (show turnsB _ = true; kernel_rfl)
      | omega
      | (refine ⟨by omega, by omega⟩)
      | (simp; done)
      | (have h4 := ‹(decide (p.seq = q.seq) && (decide (p.d0 = q.d0) && (decide (p.d1 = q.d1) && (decide (p.d2 = q.d2) && (decide (p.d3 = q.d3) && (decide (p.d4 = q.d4) && (decide (p.d5 = q.d5) && (decide (p.d6 = q.d6) && true)))))))) = false›
         refine ret_v ?_ rfl
         have hne : ¬ ps = qs := by
           intro e
           subst e
           rw [hg1] at hg2
           cases hg2
           simp at h4
         subst hsm
         simp [boolD, hne]
         done)
      | (have h4 := ‹(decide (p.seq = q.seq) && (decide (p.d0 = q.d0) && (decide (p.d1 = q.d1) && (decide (p.d2 = q.d2) && (decide (p.d3 = q.d3) && (decide (p.d4 = q.d4) && (decide (p.d5 = q.d5) && (decide (p.d6 = q.d6) && true)))))))) = true›
         have he : p = q := by
           simp only [Bool.and_true, Bool.and_eq_true, decide_eq_true_eq] at h4
           obtain ⟨a0, a1, a2, a3, a4, a5, a6, a7⟩ := p
           obtain ⟨c0, c1, c2, c3, c4, c5, c6, c7⟩ := q
           simp only at h4
           simp [h4]
         refine ⟨i + 1, ⟨by omega, by omega, ?_⟩, ?_, told_less ?_⟩
         · rw [show (i + 1).toNat = i.toNat + 1 by omega, ht1, ht2, i2, he]
         · simp only [Int.toNat_natCast]
           omega
         · simp [toldP, getS, ei])
      | (replace h : ¬ i < (xs.length : Int) := h
         refine ret_v ?_ rfl
         have hil : i.toNat = ps.length := by omega
         rw [hil, List.take_length] at i2
         have e : ps = qs := by rw [i2, hlen, List.take_length]
         subst hsm
         simp [boolD, e])
def kn_sameA (F : FsQ) : FuncId × (List DV → RV) := (33, fun args => match args with
  | [.d (.slc 8 xs), .d (.slc 8 ys)] => some ([F.isAt xs, F.isAt ys], boolD ((F.sameA xs ys)))
  | [.d (.sc (.slice none 0 0)), .d (.slc 8 ys)] => some ([F.isAt [], F.isAt ys], boolD ((F.sameA [] ys)))
  | [.d (.slc 8 xs), .d (.sc (.slice none 0 0))] => some ([F.isAt xs, F.isAt []], boolD ((F.sameA xs [])))
  | [.d (.sc (.slice none 0 0)), .d (.sc (.slice none 0 0))] => some ([F.isAt [], F.isAt []], boolD ((F.sameA [] [])))
  | _ => none)
theorem ok_sameA (args : List DV) (cs : List Prop) (r : DV) (h : (kn_sameA FsQ0).2 args = some (cs, r)) (hc : allP cs True) : FnV Try.prog 33 args r ∧ closedL 0 args = true := by
  unfold kn_sameA at h
  simp only at h
  split at h
  · cases h; exact ⟨v_sameA _ _ hc.1 hc.2.1, rfl⟩
  · cases h; exact ⟨FnP.nils (v_sameA [] _ hc.1 hc.2.1) ⟨.inr ⟨rfl, _, rfl⟩, ⟨.inl rfl, trivial⟩⟩, rfl⟩
  · cases h; exact ⟨FnP.nils (v_sameA _ [] hc.1 hc.2.1) ⟨.inl rfl, ⟨.inr ⟨rfl, _, rfl⟩, trivial⟩⟩, rfl⟩
  · cases h; exact ⟨FnP.nils (v_sameA [] [] hc.1 hc.2.1) ⟨.inr ⟨rfl, _, rfl⟩, ⟨.inr ⟨rfl, _, rfl⟩, trivial⟩⟩, rfl⟩
  · cases h
end Go.Proofs.Ytikodmddomaneaa
namespace Go.Proofs.Ytikodmddomaneaa
open Go.RowKit
set_option linter.all false
set_option maxHeartbeats 4000000

structure FsR where
  runs : Bool
def FsR0 : FsR where
  runs := true
set_option maxRecDepth 100000 in
theorem v_runs : FnV Try.prog 3 [] (boolD true) := by
  obtain ⟨GFsL, hGFsL⟩ : ∃ F, F = FsL0 := ⟨_, rfl⟩
  obtain ⟨GFsJ, hGFsJ⟩ : ∃ F, F = FsJ0 := ⟨_, rfl⟩
  obtain ⟨GFsA, hGFsA⟩ : ∃ F, F = FsA0 := ⟨_, rfl⟩
  obtain ⟨GFsO, hGFsO⟩ : ∃ F, F = FsO0 := ⟨_, rfl⟩
  obtain ⟨GFsI, hGFsI⟩ : ∃ F, F = FsI0 := ⟨_, rfl⟩
  obtain ⟨GFsQ, hGFsQ⟩ : ∃ F, F = FsQ0 := ⟨_, rfl⟩
  have hH : SoundK Try.prog [kn_atF GFsL, kn_join GFsJ, kn_reach GFsA, kn_most GFsO, kn_list GFsI, kn_sameI GFsQ] := by subst hGFsL hGFsJ hGFsA hGFsO hGFsI hGFsQ; exact orK_ok ok_atF (orK_ok ok_join (orK_ok ok_reach (orK_ok ok_most (orK_ok ok_list (orK_ok ok_sameI noK_ok)))))
  refine FnD_cbv (T := fun _ => tabY [] [1, 2, 3, 4]) (H := fun _ => [kn_atF GFsL, kn_join GFsJ, kn_reach GFsA, kn_most GFsO, kn_list GFsI, kn_sameI GFsQ]) (tabY_ok _ _) hH follows_mixed Try.func3 rfl Try.ntmps3 (by simp) fun A X W hA hX hW => ?_
  cbv
  repeat' first
    | (refine part (fun h => ?_) (fun h => ?_) <;> try cbv)
    | (refine And.intro ?_ ?_)
    | ((with_reducible refine regionF (T := fun _ => tabY [] [1,2,3,4]) (H := fun _ => [kn_atF GFsL, kn_join GFsJ, kn_reach GFsA, kn_most GFsO, kn_list GFsI, kn_sameI GFsQ]) (tabY_ok _ _) hH hA hX ?_) <;> cbv)
    | ((with_reducible refine regionL [1000001,1000002] [] (T := fun _ => tabY [] []) (H := fun _ => [kn_atF GFsL, kn_join GFsJ, kn_reach GFsA, kn_most GFsO, kn_list GFsI, kn_sameI GFsQ]) (B := fun _ => []) (R := fun _ => []) (A := A) (tabY_ok _ _) hH noB_ok noR_ok follows_mixed hA hX (by kernel_rfl) (by kernel_rfl) (by kernel_rfl) ?_) <;> cbv)
  all_goals subst hA hX hW hGFsL hGFsJ hGFsA hGFsO hGFsI hGFsQ
  all_goals clear hH
  all_goals simp only [A0, nc, FsL0, FsJ0, FsA0, FsO0, FsI0, FsQ0] at *
  all_goals first
    | exact ⟨[0, 4], rfl⟩
    | exact ⟨[0], rfl⟩
    | exact ⟨[1], rfl⟩
    | exact ⟨[1, 2], rfl⟩
    | exact ⟨[0, 1], rfl⟩
    | exact ⟨[2, 0], rfl⟩
    | exact ⟨[1, 5], rfl⟩
    | exact ⟨[2, 5], rfl⟩
    | exact ⟨[atX 1 [[.sc (.int .i64 0)]], atX 2 [[.sc (.int .i64 1)]], atX 2 [[.sc (.int .i64 1)]]], rfl, by decide, by unfold rAttr r64; decide⟩
    | exact ⟨[atX 1 [[.sc (.int .i64 2)], [.sc (.int .i64 0)]], atX 3 [[.sc (.int .i64 1)], [.sc (.int .i64 5)]]], rfl, by decide, by unfold rAttr r64; decide⟩
    | exact list_isIn _ _
    | exact ⟨[⟨0, 1⟩, ⟨1, 2⟩], rfl, by decide⟩
    | (show rDeps _; unfold rDeps r64; decide)
    | (exact absurd (‹_ = false›.symm.trans (by kernel_rfl)) (by decide : ¬ (false = true)))
    | (refine ret_v ?_ rfl; kernel_rfl)

def kn_runs (F : FsR) : FuncId × (List DV → RV) := (3, fun args => match args with
  | [] => some ([], boolD F.runs)
  | _ => none)
theorem ok_runs (args : List DV) (cs : List Prop) (r : DV) (h : (kn_runs FsR0).2 args = some (cs, r)) (hc : allP cs True) : FnV Try.prog 3 args r ∧ closedL 0 args = true := by
  unfold kn_runs at h
  simp only at h
  split at h
  · cases h; exact ⟨v_runs, rfl⟩
  · cases h
end Go.Proofs.Ytikodmddomaneaa
namespace Go.Proofs.Ytikodmddomaneaa
open Go.RowKit
set_option linter.all false
set_option maxHeartbeats 4000000
theorem covers_iff {a b : Deps} : coversD a b = true ↔ b.d0 ≤ a.d0 ∧ b.d1 ≤ a.d1 ∧ b.d2 ≤ a.d2 ∧ b.d3 ≤ a.d3 ∧ b.d4 ≤ a.d4 ∧ b.d5 ≤ a.d5 ∧ b.d6 ≤ a.d6 := by
  simp [coversD, and_assoc]
theorem covers_trans {a b c : Deps} (h : coversD a b = true) (g : coversD b c = true) : coversD a c = true := by
  rw [covers_iff] at *
  omega
theorem covers_refl (a : Deps) : coversD a a = true := by rw [covers_iff]; omega
theorem covers_anti {a b : Deps} (h : coversD a b = true) (g : coversD b a = true) : a = b := by
  rw [covers_iff] at *
  cases a; cases b
  simp only at h g
  simp only [Deps.mk.injEq]
  omega
theorem covers_eqs {a b : Deps} (h1 : coversD a b = true) (h2 : coversD b a = true) : (decide (a.d0 = b.d0) && (decide (a.d1 = b.d1) && (decide (a.d2 = b.d2) && (decide (a.d3 = b.d3) && (decide (a.d4 = b.d4) && (decide (a.d5 = b.d5) && (decide (a.d6 = b.d6) && true))))))) = true := by
  have := covers_anti h1 h2
  subst this
  simp
theorem covers_reach {a b : Deps} {i : Inst} (h : coversD a b = true) (g : reachD b i = true) : reachD a i = true := by
  rw [covers_iff] at h
  unfold reachD at *
  simp only [Bool.and_eq_true, decide_eq_true_eq] at *
  refine ⟨g.1, ?_⟩
  have h2 := g.2
  have hk := rightI_rep g.1
  unfold Deps.at at *
  rcases hk with e | e | e | e | e | e | e <;> simp only [e] at * <;> simp at * <;> omega

structure FsV where
  coversL : Deps → Deps → Deps → Inst → Bool
def FsV0 : FsV where
  coversL := fun _ _ _ _ => true
set_option maxRecDepth 100000 in
theorem v_coversL (a : Deps) (b : Deps) (c : Deps) (i : Inst) : FnV Try.prog 7 [Deps.D a, Deps.D b, Deps.D c, Inst.D i] (boolD (((fun (_ _ _ : Deps) (_ : Inst) => true) a b c i))) := by
  obtain ⟨a_d0, a_d1, a_d2, a_d3, a_d4, a_d5, a_d6⟩ := a
  obtain ⟨b_d0, b_d1, b_d2, b_d3, b_d4, b_d5, b_d6⟩ := b
  obtain ⟨c_d0, c_d1, c_d2, c_d3, c_d4, c_d5, c_d6⟩ := c
  obtain ⟨i_replica, i_slot⟩ := i
  obtain ⟨GFsA, hGFsA⟩ : ∃ F, F = FsA0 := ⟨_, rfl⟩
  obtain ⟨GFsR, hGFsR⟩ : ∃ F, F = FsR0 := ⟨_, rfl⟩
  have hH : SoundK Try.prog [kn_covers GFsA, kn_reach GFsA, kn_runs GFsR] := by subst hGFsA hGFsR; exact orK_ok ok_covers (orK_ok ok_reach (orK_ok ok_runs noK_ok))
  refine FnD_cbv (T := fun _ => tabY [] []) (H := fun _ => [kn_covers GFsA, kn_reach GFsA, kn_runs GFsR]) (tabY_ok _ _) hH follows_mixed Try.func7 rfl Try.ntmps7 (by simp) fun A X W hA hX hW => ?_
  cbv
  repeat' first
    | (refine part (fun h => ?_) (fun h => ?_) <;> try cbv)
    | (refine And.intro ?_ ?_)
  all_goals subst hA hX hW hGFsA hGFsR
  all_goals clear hH
  all_goals simp only [A0, nc, FsA0, FsR0] at *
  all_goals have k1 := @covers_trans ⟨a_d0, a_d1, a_d2, a_d3, a_d4, a_d5, a_d6⟩ ⟨b_d0, b_d1, b_d2, b_d3, b_d4, b_d5, b_d6⟩ ⟨c_d0, c_d1, c_d2, c_d3, c_d4, c_d5, c_d6⟩
  all_goals have k2 := covers_refl ⟨a_d0, a_d1, a_d2, a_d3, a_d4, a_d5, a_d6⟩
  all_goals have k3 := @covers_eqs ⟨a_d0, a_d1, a_d2, a_d3, a_d4, a_d5, a_d6⟩ ⟨b_d0, b_d1, b_d2, b_d3, b_d4, b_d5, b_d6⟩
  all_goals have k4 := @covers_reach ⟨a_d0, a_d1, a_d2, a_d3, a_d4, a_d5, a_d6⟩ ⟨b_d0, b_d1, b_d2, b_d3, b_d4, b_d5, b_d6⟩ ⟨i_replica, i_slot⟩
  all_goals simp only at k3
  all_goals generalize (decide (a_d0 = b_d0) && (decide (a_d1 = b_d1) && (decide (a_d2 = b_d2) && (decide (a_d3 = b_d3) && (decide (a_d4 = b_d4) && (decide (a_d5 = b_d5) && (decide (a_d6 = b_d6) && true))))))) = E at *
  all_goals generalize coversD ⟨a_d0, a_d1, a_d2, a_d3, a_d4, a_d5, a_d6⟩ ⟨b_d0, b_d1, b_d2, b_d3, b_d4, b_d5, b_d6⟩ = p at *
  all_goals generalize coversD ⟨b_d0, b_d1, b_d2, b_d3, b_d4, b_d5, b_d6⟩ ⟨c_d0, c_d1, c_d2, c_d3, c_d4, c_d5, c_d6⟩ = q at *
  all_goals generalize coversD ⟨a_d0, a_d1, a_d2, a_d3, a_d4, a_d5, a_d6⟩ ⟨c_d0, c_d1, c_d2, c_d3, c_d4, c_d5, c_d6⟩ = r at *
  all_goals generalize coversD ⟨b_d0, b_d1, b_d2, b_d3, b_d4, b_d5, b_d6⟩ ⟨a_d0, a_d1, a_d2, a_d3, a_d4, a_d5, a_d6⟩ = t at *
  all_goals generalize coversD ⟨a_d0, a_d1, a_d2, a_d3, a_d4, a_d5, a_d6⟩ ⟨a_d0, a_d1, a_d2, a_d3, a_d4, a_d5, a_d6⟩ = u at *
  all_goals generalize reachD ⟨b_d0, b_d1, b_d2, b_d3, b_d4, b_d5, b_d6⟩ ⟨i_replica, i_slot⟩ = x at *
  all_goals generalize reachD ⟨a_d0, a_d1, a_d2, a_d3, a_d4, a_d5, a_d6⟩ ⟨i_replica, i_slot⟩ = y at *
  all_goals subst k2
  all_goals first
    | (show Region.lexB _ _ = true; kernel_rfl)
    | (show turnsB _ = true; kernel_rfl)
    | (intros; first | assumption | trivial | (simp_all; done))
    | (cases p <;> cases q <;> cases r <;> cases t <;> cases E <;> cases x <;> cases y <;> first | (simp_all; done) | (refine ret_v ?_ rfl; rfl) | (refine ret_v ?_ rfl; simp_all [boolD]; done) | (exfalso; simp_all; done))

end Go.Proofs.Ytikodmddomaneaa
namespace Go.Proofs.Ytikodmddomaneaa
open Go.RowKit
set_option linter.all false
theorem most_ge (L : List Attr) : ∀ (l : List Attr) (p : Attr × Int), p.2 ≤ (l.foldl (mostS L) p).2 ∧ ∀ a ∈ l, (L.count a : Int) ≤ (l.foldl (mostS L) p).2
  | [], p => ⟨Int.le_refl _, fun _ h => by cases h⟩
  | x :: l, p => by
    obtain ⟨h1, h2⟩ := most_ge L l (mostS L p x)
    have hx : p.2 ≤ (mostS L p x).2 ∧ (L.count x : Int) ≤ (mostS L p x).2 := by
      unfold mostS
      split
      · constructor
        · simp only; omega
        · exact Int.le_refl _
      · constructor
        · exact Int.le_refl _
        · omega
    refine ⟨Int.le_trans hx.1 h1, fun a ha => ?_⟩
    rcases List.mem_cons.1 ha with rfl | ha
    · exact Int.le_trans hx.2 h1
    · exact h2 a ha
theorem most_in (L : List Attr) : ∀ (l : List Attr) (p : Attr × Int), (l.foldl (mostS L) p).2 = p.2 ∨ ∃ a ∈ l, (l.foldl (mostS L) p).2 = (L.count a : Int)
  | [], p => .inl rfl
  | x :: l, p => by
    rcases most_in L l (mostS L p x) with h | ⟨a, ha, h⟩
    · by_cases e : p.2 < (L.count x : Int)
      · refine .inr ⟨x, List.mem_cons_self, ?_⟩
        rw [List.foldl_cons, h]
        simp [mostS, e]
      · left
        rw [List.foldl_cons, h]
        simp [mostS, e]
    · exact .inr ⟨a, List.mem_cons_of_mem _ ha, h⟩
theorem mostL_ge {l : List Attr} {a : Attr} (h : a ∈ l) : (l.count a : Int) ≤ (mostL l).2 := (most_ge l l (zeroA, 0)).2 a h
theorem mostL_in (l : List Attr) : (mostL l).2 = 0 ∨ ∃ a ∈ l, (mostL l).2 = (l.count a : Int) := most_in l l (zeroA, 0)
theorem mostL_nn (l : List Attr) : 0 ≤ (mostL l).2 := (most_ge l l (zeroA, 0)).1
theorem mostL_pos {l : List Attr} : 0 < (mostL l).2 ↔ 0 < l.length := by
  constructor
  · intro h
    cases l with
    | nil => exact absurd h (by decide)
    | cons x l => simp
  · intro h
    cases l with
    | nil => simp at h
    | cons x l =>
      have h1 := mostL_ge (l := x :: l) (a := x) List.mem_cons_self
      rw [List.count_cons_self] at h1
      omega
theorem mostL_le {l l' : List Attr} (h : l.Perm l') : (mostL l).2 ≤ (mostL l').2 := by
  rcases mostL_in l with e | ⟨a, ha, e⟩
  · rw [e]; exact mostL_nn l'
  · rw [e, h.count_eq a]
    exact mostL_ge (h.mem_iff.1 ha)
theorem mostL_perm {l l' : List Attr} (h : l.Perm l') : (mostL l).2 = (mostL l').2 := Int.le_antisymm (mostL_le h) (mostL_le h.symm)
/-- Turned round. -/
theorem mostL_turn (l : List Attr) (k : Nat) : (mostL (l.drop k ++ l.take k)).2 = (mostL l).2 := mostL_perm ((List.perm_append_comm).trans (List.Perm.of_eq (List.take_append_drop k l)))
theorem mostX_turn {xs : List (List PD)} (h : isAt xs) (k : Nat) : (mostX (xs.drop k ++ xs.take k)).2 = (mostX xs).2 := by
  obtain ⟨l, hx, hl, hr⟩ := h
  have e : xs.drop k ++ xs.take k = attrsX (l.drop k ++ l.take k) := by rw [hx]; unfold attrsX; simp [List.map_drop, List.map_take]
  unfold mostX
  rw [e, attrsOf_X, mostL_turn, hx, attrsOf_X]
theorem isAt_turn {xs : List (List PD)} (h : isAt xs) (k : Nat) : isAt (xs.drop k ++ xs.take k) := by
  obtain ⟨l, hx, hl, hr⟩ := h
  refine ⟨l.drop k ++ l.take k, by rw [hx]; unfold attrsX; simp [List.map_drop, List.map_take], by simp; omega, fun a ha => hr a ?_⟩
  rcases List.mem_append.1 ha with ha | ha
  · exact List.mem_of_mem_drop ha
  · exact List.mem_of_mem_take ha
theorem isAt_take {xs : List (List PD)} (h : isAt xs) (k : Nat) : isAt (xs.take k) := by
  obtain ⟨l, hx, hl, hr⟩ := h
  refine ⟨l.take k, by rw [hx]; unfold attrsX; simp [List.map_take], by simp; omega, fun a ha => hr a (List.mem_of_mem_take ha)⟩
theorem count_take_succ {l : List Attr} {j : Nat} (h : j < l.length) (a : Attr) : ((l.take (j + 1)).count a : Int) = (l.take j).count a + (if l[j] = a then 1 else 0) := by
  rw [List.take_succ_eq_append_getElem h, List.count_append]
  by_cases e : l[j] = a <;> simp [e, List.count_cons]

end Go.Proofs.Ytikodmddomaneaa
