/- Any bytes as a letter, as a cell; a letter's bytes turned, cut off, or longer. No condition. -/
import Derived.Test.YtbhapclaochcnaaRF
import Derived.Test.YtbhapclaochcnaaRG
import Derived.Test.YtbhapclaochcnaaRE
import Derived.Test.YtbhapclaochcnaaAm45
namespace Go.Proofs.Ytbhapclaochcnaa
open Go.RowKit
set_option linter.all false
set_option maxHeartbeats 8000000
theorem cutS {α : Sort _} {X : Cps} {c : Code} {Q : Exit → SL → Store → Prop} {G : Prop} (I : α → Prop) (S : α → SL) (ST : α → Store) (pf : ∀ y, I y → X.st c Q (S y) (ST y)) (g : (∀ y, I y → X.st c Q (S y) (ST y)) → G) : G := g pf
theorem told_eq {k : Nat} {s s' : SL} {st st' : Store} (e : st = st') (h : toldP id s s') : Told k s st s' st' := by subst e; exact told_less h

theorem told_freeze2 {k : Nat} {s s' : SL} {st st' : Store} (b sz : Nat) (xs : List (List PD)) (bx : Box) (hb : st[b]? = some bx) (hl : bx.live = true) (hcells : bx.cells = rowsD xs) (hsz : ∀ x ∈ xs, x.length = sz)
    (hst : st' = fzSt b sz xs st) (hs : toldP (fzD b bx.ver sz xs) s s') : Told k s st s' st' := by
  subst hst
  intro E N a hc he hsl
  obtain ⟨E', e1, e2, e3, e4, e5, _⟩ := freeze_env b sz xs bx hb hl hcells hsz E hc he
  refine ⟨E', e1, e2, e3, ⟨hsl.size, fun i => ?_, hsl.defers⟩, fun F hF _ hx => Ext.trans hF hc.len hx e5⟩
  rcases toldP_get hs i with h | h
  · rw [h]
    exact e4 _ _ (hsl.rep i)
  · rw [h]
    trivial

theorem bytesR2 (bs : List UInt8) : rowsD (bytesP bs) = bs.map fun b => .d (.sc (.int .u8 (b.toNat : Int))) := by
  induction bs with
  | nil => rfl
  | cons b bs ih => rw [List.map_cons, ← ih]; rfl
theorem bytesR2_spl {bs : List UInt8} {p : Nat} {to_ : Int} (h : p < bs.length) (hn : 0 ≤ to_ ∧ to_ < 256) : splice (rowsD (bytesP bs)) p [.d (.sc (.int .u8 to_))] = rowsD (bytesP (bs.set p (UInt8.ofNat to_.toNat))) := by
  have h2 : p < (rowsD (bytesP bs)).length := by rw [rowsB_length]; exact h
  rw [bytesR2 (bs.set p _), List.map_set, ← bytesR2, splice, List.length_singleton, List.set_eq_take_append_cons_drop, if_pos h2]
  have : (((UInt8.ofNat to_.toNat).toNat : Nat) : Int) = to_ := by simp; omega
  rw [this]
  simp
theorem within_r3 (n hi : Int) (h : 0 ≤ hi) : 0 ≤ within3 n 0 hi ∧ within3 n 0 hi ≤ hi := by
  unfold within3
  have h1 := Int.emod_nonneg n (show hi - 0 + 1 ≠ 0 by omega)
  have h2 := Int.emod_lt_of_pos n (show 0 < hi - 0 + 1 by omega)
  omega

theorem fz_rows (b ver sz : Nat) (xs L : List (List PD)) : fzL b ver sz xs (rowsD L) = rowsD L := by
  rw [fzL_eq, rowsD, List.map_map]
  rfl

theorem set_self {st : Store} {b : Nat} {bx : Box} (h : st[b]? = some bx) : st.set b bx = st := by
  apply List.ext_getElem?
  intro i
  rw [List.getElem?_set]
  by_cases hi : b = i
  · subst hi
    have := (List.getElem?_eq_some_iff.1 h).1
    simp only [↓reduceIte, this]
    exact h.symm
  · simp [hi]
def kr_pwrong (F : FsR) : FuncId × (List DV → Store → RV) := (27, fun args st => match args with
  | [.ref b ver o] => (match st[b]? with
    | some ⟨t, [.d (.slc 1 xs), .d (.sc (.int .i64 a)), .d (.sc (.int .i64 w))], false, v, true⟩ => (bif (ver == 0) && (o == 0) && (v == 0) && (t == 95) then some ([F.rd xs a w], .d (.sc (.int .i64 w))) else none)
    | _ => none)
  | _ => none)
theorem okr_pwrong (args : List DV) (st : Store) (cs : List Prop) (r : DV) (h : (kr_pwrong FsR0).2 args st = some (cs, r)) (hc : allP cs True) (K : DV → Store → Prop) (hk : K r st) : FnD Try.prog 27 args st K := by
  unfold kr_pwrong at h
  simp only at h
  split at h
  · split at h
    · rename_i hb
      simp only [cond_eq_ite, Bool.and_eq_true, beq_iff_eq, Option.ite_none_right_eq_some] at h
      obtain ⟨⟨⟨⟨rfl, rfl⟩, rfl⟩, rfl⟩, h⟩ := h
      cases h
      exact FnD.one _ (v_pwrong _ _ _ hc.1) hb rfl rfl rfl rfl (by rw [set_self hb]; exact hk)
    · cases h
  · cases h
set_option maxRecDepth 100000 in
theorem v_reads15 (xs : List (List PD)) (m : Letter) (at_ to_ how_ : Int) (hp0 : isBn 1048576 xs) (hp1 : okLet m) (hat : r64 at_) (hto : 0 ≤ to_ ∧ to_ < 256) (hho : r64 how_) : FnV Try.prog 5 [.d (.slc 1 xs), m.D, intD at_, .d (.sc (.int .u8 to_)), intD how_] (boolD true) := by
  obtain ⟨m_lkind, m_src, m_dst, m_irep, m_islot, m_be, m_br, m_mkind, m_mclient, m_mseq, m_mkey, m_mfin, m_mold, m_mval, m_tseq, m_td0, m_td1, m_td2, m_td3, m_td4, m_td5, m_td6, m_lstatus, m_lpe, m_lpr, m_lve, m_lvr, m_lckind, m_lcclient, m_lcseq, m_lckey, m_lcfin, m_lcold, m_lcval, m_laseq, m_lad0, m_lad1, m_lad2, m_lad3, m_lad4, m_lad5, m_lad6, m_lsame, m_fd0, m_fd1, m_fd2, m_fd3, m_fd4, m_fd5, m_fd6, m_data⟩ := m
  obtain ⟨GFsL9, hFsL9⟩ : ∃ F, F = FsL90 := ⟨_, rfl⟩
  obtain ⟨GFsR5, hFsR5⟩ : ∃ F, F = FsR50 := ⟨_, rfl⟩
  obtain ⟨GFsQ, hFsQ⟩ : ∃ F, F = FsQ0 := ⟨_, rfl⟩
  obtain ⟨GFsU, hFsU⟩ : ∃ F, F = FsU0 := ⟨_, rfl⟩
  obtain ⟨GFsL6, hFsL6⟩ : ∃ F, F = FsL60 := ⟨_, rfl⟩
  obtain ⟨GFsL7, hFsL7⟩ : ∃ F, F = FsL70 := ⟨_, rfl⟩
  obtain ⟨GFsK, hFsK⟩ : ∃ F, F = FsK0 := ⟨_, rfl⟩
  obtain ⟨GFsS, hFsS⟩ : ∃ F, F = FsS0 := ⟨_, rfl⟩
  obtain ⟨GFsLG, hFsLG⟩ : ∃ F, F = FsLG0 := ⟨_, rfl⟩
  obtain ⟨GFsLH, hFsLH⟩ : ∃ F, F = FsLH0 := ⟨_, rfl⟩
  have hH : SoundK Try.prog [kn_light GFsL9, kn_rightL2 GFsR5, kn_within3 GFsQ, kn_roomy GFsU, kn_getLet GFsL6, kn_getLet2 GFsL7, kn_intact GFsU, kn_runs15 GFsK] := by subst hFsL9 hFsR5 hFsQ hFsU hFsL6 hFsL7 hFsK hFsS hFsLG hFsLH; exact orK_ok ok_light (orK_ok ok_rightL2 (orK_ok ok_within3 (orK_ok ok_roomy (orK_ok ok_getLet (orK_ok ok_getLet2 (orK_ok ok_intact (orK_ok ok_runs15 noK_ok)))))))
  have hB : SoundB Try.prog [kb_pRead GFsS, kb_rRead GFsS, kb_gCell GFsLG, kb_rCell GFsLH] := by subst hFsL9 hFsR5 hFsQ hFsU hFsL6 hFsL7 hFsK hFsS hFsLG hFsLH; exact orB_ok okb_pRead (orB_ok okb_rRead (orB_ok okb_gCell (orB_ok okb_rCell noB_ok)))
  obtain ⟨GFsR, hFsR⟩ : ∃ F, F = FsR0 := ⟨_, rfl⟩
  have hR0 : SoundR Try.prog [kr_pwrong GFsR] := by subst hFsR; exact orR_ok okr_pwrong noR_ok
  refine FnD_cbv (T := fun _ => tabY [] [3, 5, 9, 11, 13, 14, 18]) (H := fun _ => [kn_light GFsL9, kn_rightL2 GFsR5, kn_within3 GFsQ, kn_roomy GFsU, kn_getLet GFsL6, kn_getLet2 GFsL7, kn_intact GFsU, kn_runs15 GFsK]) (tabY_ok _ _) hH follows_mixed Try.func5 rfl Try.ntmps5 (by simp) fun A X W hA hX hW => ?_
  cbv
  apply cutS (X := X) (fun ys : List (List PD) => isB8 ys) (fun ys => [(0, .d (.slc 1 ys)), (2, .d (.sc (.int .i64 at_))), (3, .d (.sc (.int .u8 to_))), (4, .d (.sc (.int .i64 how_))), (6, .ref 0 0 0), (10, .d (.sc (.bool false)))]) (fun _ => [⟨37, ((.d (.sc (.int .i64 m_lkind))) :: (.d (.sc (.int .i64 m_src))) :: (.d (.sc (.int .i64 m_dst))) :: (.d (.sc (.int .i64 m_irep))) :: (.d (.sc (.int .i64 m_islot))) :: (.d (.sc (.int .i64 m_be))) :: (.d (.sc (.int .i64 m_br))) :: (.d (.sc (.int .i64 m_mkind))) :: (.d (.sc (.int .i64 m_mclient))) :: (.d (.sc (.int .i64 m_mseq))) :: (.d (.sc (.string m_mkey))) :: (.d (.sc (.string m_mfin))) :: (.d (.sc (.string m_mold))) :: (.d (.sc (.string m_mval))) :: (.d (.sc (.int .i64 m_tseq))) :: (.d (.sc (.int .i64 m_td0))) :: (.d (.sc (.int .i64 m_td1))) :: (.d (.sc (.int .i64 m_td2))) :: (.d (.sc (.int .i64 m_td3))) :: (.d (.sc (.int .i64 m_td4))) :: (.d (.sc (.int .i64 m_td5))) :: (.d (.sc (.int .i64 m_td6))) :: (.d (.sc (.int .i64 m_lstatus))) :: (.d (.sc (.int .i64 m_lpe))) :: (.d (.sc (.int .i64 m_lpr))) :: (.d (.sc (.int .i64 m_lve))) :: (.d (.sc (.int .i64 m_lvr))) :: (.d (.sc (.int .i64 m_lckind))) :: (.d (.sc (.int .i64 m_lcclient))) :: (.d (.sc (.int .i64 m_lcseq))) :: (.d (.sc (.string m_lckey))) :: (.d (.sc (.string m_lcfin))) :: (.d (.sc (.string m_lcold))) :: (.d (.sc (.string m_lcval))) :: (.d (.sc (.int .i64 m_laseq))) :: (.d (.sc (.int .i64 m_lad0))) :: (.d (.sc (.int .i64 m_lad1))) :: (.d (.sc (.int .i64 m_lad2))) :: (.d (.sc (.int .i64 m_lad3))) :: (.d (.sc (.int .i64 m_lad4))) :: (.d (.sc (.int .i64 m_lad5))) :: (.d (.sc (.int .i64 m_lad6))) :: (.d (.sc (.bool m_lsame))) :: (.d (.sc (.int .i64 m_fd0))) :: (.d (.sc (.int .i64 m_fd1))) :: (.d (.sc (.int .i64 m_fd2))) :: (.d (.sc (.int .i64 m_fd3))) :: (.d (.sc (.int .i64 m_fd4))) :: (.d (.sc (.int .i64 m_fd5))) :: (.d (.sc (.int .i64 m_fd6))) :: (.d (.sc (.string m_data))) :: []), false, 0, true⟩])
  rotate_left
  · intro key
    obtain ⟨bs, hxs, hbl⟩ := id hp0
    have hxl : xs.length ≤ 1048576 := by rw [hxs, bytesP_length]; exact hbl
    refine part (fun h => ?_) (fun h => ?_) <;> try cbv
    · refine And.intro ?_ ?_
      · subst hA; simp only [A0, nc, decide_eq_true_eq] at *; replace h : (300 : Int) < xs.length := h; exact ⟨by omega, by omega, by omega⟩
      · refine pauseL hX (s' := _) (st' := _) ?_ (key (xs.take 300) ⟨bs.take 300, by rw [hxs, bytesP, bytesP, List.map_take], by rw [List.length_take]; omega⟩)
        subst hA
        exact told_less (by simp [toldP, getS, A0])
    · refine pauseL hX (s' := _) (st' := _) ?_ (key xs ⟨bs, hxs, by omega⟩)
      exact told_less (by simp [toldP, getS])
  rintro ys hys
  obtain ⟨lb, hlb⟩ : ∃ b, b = GFsL9.light (⟨m_lkind, m_src, m_dst, m_irep, m_islot, m_be, m_br, m_mkind, m_mclient, m_mseq, m_mkey, m_mfin, m_mold, m_mval, m_tseq, m_td0, m_td1, m_td2, m_td3, m_td4, m_td5, m_td6, m_lstatus, m_lpe, m_lpr, m_lve, m_lvr, m_lckind, m_lcclient, m_lcseq, m_lckey, m_lcfin, m_lcold, m_lcval, m_laseq, m_lad0, m_lad1, m_lad2, m_lad3, m_lad4, m_lad5, m_lad6, m_lsame, m_fd0, m_fd1, m_fd2, m_fd3, m_fd4, m_fd5, m_fd6, m_data⟩ : Letter) := ⟨_, rfl⟩
  obtain ⟨rb, hrb⟩ : ∃ b, b = GFsR5.rightL2 (⟨m_lkind, m_src, m_dst, m_irep, m_islot, m_be, m_br, m_mkind, m_mclient, m_mseq, m_mkey, m_mfin, m_mold, m_mval, m_tseq, m_td0, m_td1, m_td2, m_td3, m_td4, m_td5, m_td6, m_lstatus, m_lpe, m_lpr, m_lve, m_lvr, m_lckind, m_lcclient, m_lcseq, m_lckey, m_lcfin, m_lcold, m_lcval, m_laseq, m_lad0, m_lad1, m_lad2, m_lad3, m_lad4, m_lad5, m_lad6, m_lsame, m_fd0, m_fd1, m_fd2, m_fd3, m_fd4, m_fd5, m_fd6, m_data⟩ : Letter) := ⟨_, rfl⟩
  have c1 : A.cond false rb false = false := by subst hA; rfl
  have c2 : A.cond true false false = false := by subst hA; rfl
  have c3 : A.cond true true false = true := by subst hA; rfl
  cbv at hlb
  cbv at hrb
  cbv at c1
  cbv at c2
  cbv at c3
  with_reducible refine goL (T := fun _ => tabY [] []) (H := fun _ => [kn_light GFsL9, kn_rightL2 GFsR5, kn_within3 GFsQ, kn_roomy GFsU, kn_getLet GFsL6, kn_getLet2 GFsL7, kn_intact GFsU, kn_runs15 GFsK]) (tabY_ok _ _) hH follows_mixed hA hX ?_
  cbv
  simp only [← hlb, ← hrb]
  repeat' (refine And.intro ?_ ?_)
  rotate_right 1
  · obtain ⟨lc, hlc⟩ : ∃ l : List DV, l = ((.d (.sc (.int .i64 m_lkind))) :: (.d (.sc (.int .i64 m_src))) :: (.d (.sc (.int .i64 m_dst))) :: (.d (.sc (.int .i64 m_irep))) :: (.d (.sc (.int .i64 m_islot))) :: (.d (.sc (.int .i64 m_be))) :: (.d (.sc (.int .i64 m_br))) :: (.d (.sc (.int .i64 m_mkind))) :: (.d (.sc (.int .i64 m_mclient))) :: (.d (.sc (.int .i64 m_mseq))) :: (.d (.sc (.string m_mkey))) :: (.d (.sc (.string m_mfin))) :: (.d (.sc (.string m_mold))) :: (.d (.sc (.string m_mval))) :: (.d (.sc (.int .i64 m_tseq))) :: (.d (.sc (.int .i64 m_td0))) :: (.d (.sc (.int .i64 m_td1))) :: (.d (.sc (.int .i64 m_td2))) :: (.d (.sc (.int .i64 m_td3))) :: (.d (.sc (.int .i64 m_td4))) :: (.d (.sc (.int .i64 m_td5))) :: (.d (.sc (.int .i64 m_td6))) :: (.d (.sc (.int .i64 m_lstatus))) :: (.d (.sc (.int .i64 m_lpe))) :: (.d (.sc (.int .i64 m_lpr))) :: (.d (.sc (.int .i64 m_lve))) :: (.d (.sc (.int .i64 m_lvr))) :: (.d (.sc (.int .i64 m_lckind))) :: (.d (.sc (.int .i64 m_lcclient))) :: (.d (.sc (.int .i64 m_lcseq))) :: (.d (.sc (.string m_lckey))) :: (.d (.sc (.string m_lcfin))) :: (.d (.sc (.string m_lcold))) :: (.d (.sc (.string m_lcval))) :: (.d (.sc (.int .i64 m_laseq))) :: (.d (.sc (.int .i64 m_lad0))) :: (.d (.sc (.int .i64 m_lad1))) :: (.d (.sc (.int .i64 m_lad2))) :: (.d (.sc (.int .i64 m_lad3))) :: (.d (.sc (.int .i64 m_lad4))) :: (.d (.sc (.int .i64 m_lad5))) :: (.d (.sc (.int .i64 m_lad6))) :: (.d (.sc (.bool m_lsame))) :: (.d (.sc (.int .i64 m_fd0))) :: (.d (.sc (.int .i64 m_fd1))) :: (.d (.sc (.int .i64 m_fd2))) :: (.d (.sc (.int .i64 m_fd3))) :: (.d (.sc (.int .i64 m_fd4))) :: (.d (.sc (.int .i64 m_fd5))) :: (.d (.sc (.int .i64 m_fd6))) :: (.d (.sc (.string m_data))) :: []) := ⟨_, rfl⟩
    cases lb
    · simp only [c1]
      cbv
      refine pauseL hX (s' := [(0, .d (.slc 1 ys)), (10, .d (.sc (.bool false))), (11, .d (.slc 1 ys))]) (st' := [⟨37, lc, false, 0, true⟩]) (told_eq (by rw [hlc]) (by simp [toldP, getS])) ?_
      obtain ⟨fu, hfu⟩ : ∃ fu, fu = roomyX ys 8 := ⟨_, rfl⟩
      have hM8 : isM 8 := ⟨8, rfl⟩
      have hbn : (0 : Int) ≤ 0 ∧ 0 ≤ (ys.length : Int) ∧ (ys.length : Int) ≤ (fu.length : Int) := by
        have := roomy_len ys 8
        rw [← hfu] at this
        exact ⟨by omega, by omega, by omega⟩
      obtain ⟨⟨YY, ye⟩, hG⟩ : ∃ q, getLet ys = q := ⟨_, rfl⟩
      obtain ⟨y0_lkind, y1_src, y2_dst, y3_irep, y4_islot, y5_be, y6_br, y7_mkind, y8_mclient, y9_mseq, y10_mkey, y11_mfin, y12_mold, y13_mval, y14_tseq, y15_td0, y16_td1, y17_td2, y18_td3, y19_td4, y20_td5, y21_td6, y22_lstatus, y23_lpe, y24_lpr, y25_lve, y26_lvr, y27_lckind, y28_lcclient, y29_lcseq, y30_lckey, y31_lcfin, y32_lcold, y33_lcval, y34_laseq, y35_lad0, y36_lad1, y37_lad2, y38_lad3, y39_lad4, y40_lad5, y41_lad6, y42_lsame, y43_fd0, y44_fd1, y45_fd2, y46_fd3, y47_fd4, y48_fd5, y49_fd6, y50_data⟩ := YY
      obtain ⟨⟨CC, ca, cw⟩, hC⟩ : ∃ q, getCellX ys 0 0 = q := ⟨_, rfl⟩
      obtain ⟨u0, u1, u2, u3, u4, u5, u6, u7, u8, u9, u10, u11, u12, u13, u14, u15, u16, u17, u18, u19, u20⟩ := CC
      have j4 : GFsU.roomy ys 8 = fu := by subst hFsU; exact hfu.symm
      have j5 : A.sub fu 0 (A.len ys) = ys := by subst hA; show (fu.drop 0).take ((ys.length : Int).toNat - 0) = ys; rw [hfu, show (ys.length : Int).toNat - 0 = ys.length by omega]; exact roomy_take ys 8
      have j6 : GFsL6.getLet ys = ((⟨y0_lkind, y1_src, y2_dst, y3_irep, y4_islot, y5_be, y6_br, y7_mkind, y8_mclient, y9_mseq, y10_mkey, y11_mfin, y12_mold, y13_mval, y14_tseq, y15_td0, y16_td1, y17_td2, y18_td3, y19_td4, y20_td5, y21_td6, y22_lstatus, y23_lpe, y24_lpr, y25_lve, y26_lvr, y27_lckind, y28_lcclient, y29_lcseq, y30_lckey, y31_lcfin, y32_lcold, y33_lcval, y34_laseq, y35_lad0, y36_lad1, y37_lad2, y38_lad3, y39_lad4, y40_lad5, y41_lad6, y42_lsame, y43_fd0, y44_fd1, y45_fd2, y46_fd3, y47_fd4, y48_fd5, y49_fd6, y50_data⟩ : Letter), ye) := by subst hFsL6; exact hG
      have j7 : GFsL7.getLet2 ys = ((⟨y0_lkind, y1_src, y2_dst, y3_irep, y4_islot, y5_be, y6_br, y7_mkind, y8_mclient, y9_mseq, y10_mkey, y11_mfin, y12_mold, y13_mval, y14_tseq, y15_td0, y16_td1, y17_td2, y18_td3, y19_td4, y20_td5, y21_td6, y22_lstatus, y23_lpe, y24_lpr, y25_lve, y26_lvr, y27_lckind, y28_lcclient, y29_lcseq, y30_lckey, y31_lcfin, y32_lcold, y33_lcval, y34_laseq, y35_lad0, y36_lad1, y37_lad2, y38_lad3, y39_lad4, y40_lad5, y41_lad6, y42_lsame, y43_fd0, y44_fd1, y45_fd2, y46_fd3, y47_fd4, y48_fd5, y49_fd6, y50_data⟩ : Letter), ye) := by subst hFsL7; exact hG
      have j8 : GFsLG.cell ys 0 0 = ((⟨u0, u1, u2, u3, u4, u5, u6, u7, u8, u9, u10, u11, u12, u13, u14, u15, u16, u17, u18, u19, u20⟩ : Cell), ca, cw) := by subst hFsLG; exact hC
      have j9 : GFsLH.cell ys 0 0 = ((⟨u0, u1, u2, u3, u4, u5, u6, u7, u8, u9, u10, u11, u12, u13, u14, u15, u16, u17, u18, u19, u20⟩ : Cell), ca, cw) := by subst hFsLH; exact hC
      have jc : GFsU.intact fu ys 8 = true := by subst hFsU hfu; rfl
      have jd : GFsK.runs15 = true := by subst hFsK; rfl
      have je : A.cond true true false = true := by subst hA; rfl
      have jf : A.and true true = true := by subst hA; rfl
      have jg : A.cmp .eql ye ye = true := by subst hA; exact decide_eq_true rfl
      have jh : A.cmp .neq cw cw = false := by subst hA; show (!decide (cw = cw)) = false; rw [decide_eq_true rfl]; rfl
      have ji : A.not true = false := by subst hA; rfl
      have jk : A.cond false true false = false := by subst hA; rfl
      cbv at jf
      cbv at jg
      cbv at jh
      cbv at ji
      cbv at jk
      have rI : ∀ n : Int, A.cmp .eql n n = true := by subst hA; exact fun n => decide_eq_true rfl
      have rS : ∀ n : ByteArray, A.scmp .eql n n = true := by subst hA; exact fun n => decide_eq_true rfl
      have rB : ∀ n : Bool, A.beq n n = true := by subst hA; exact fun n => by cases n <;> rfl
      unfold Ar.cmp at rI
      unfold Ar.scmp at rS
      unfold Ar.beq at rB
      cbv at j4
      cbv at j5
      cbv at j6
      cbv at j7
      cbv at j8
      cbv at j9
      cbv at jc
      cbv at jd
      cbv at je
      with_reducible refine goL (T := fun _ => tabY [] []) (H := fun _ => [kn_light GFsL9, kn_rightL2 GFsR5, kn_within3 GFsQ, kn_roomy GFsU, kn_getLet GFsL6, kn_getLet2 GFsL7, kn_intact GFsU, kn_runs15 GFsK]) (tabY_ok _ _) hH follows_mixed hA hX ?_
      cbv
      repeat' first
        | (simp only [j4, j5, j6, j7, j8, j9, jc, jd, je, jf, jg, jh, ji, jk, rI, rS, rB]; cbv)
        | (refine And.intro ?_ ?_)
        | (refine part (fun h => ?_) (fun h => ?_) <;> try cbv)
        | ((with_reducible refine callB hX hB ?_) <;> cbv)
        | ((with_reducible refine regionL [25, 26] [0, 0, 0, 0, 0, 0, 1, 2, 2, 2, 2, 2, 2, 2, 2, 2, 2, 2] (T := fun _ => tabY [] []) (H := fun _ => [kn_light GFsL9, kn_rightL2 GFsR5, kn_within3 GFsQ, kn_roomy GFsU, kn_getLet GFsL6, kn_getLet2 GFsL7, kn_intact GFsU, kn_runs15 GFsK]) (B := fun _ => [kb_pRead GFsS, kb_rRead GFsS, kb_gCell GFsLG, kb_rCell GFsLH]) (R := fun _ => [kr_pwrong GFsR]) (A := A) (tabY_ok _ _) hH hB hR0 follows_mixed hA hX (by kernel_rfl) (by kernel_rfl) (by kernel_rfl) ?_) <;> cbv)
      all_goals clear hH hB hR0
      all_goals subst hA hX hW hFsR hFsL9 hFsR5 hFsQ hFsU hFsL6 hFsL7 hFsK hFsS hFsLG hFsLH
      all_goals first
        | exact hys
        | exact hys
        | exact hM8
        | exact hbn
        | exact rd0 hys
        | exact hfu
        | exact ret_v rfl rfl
        | exact fun _ => hM8
        | exact fun _ => hys
        | exact fun _ => hfu
        | exact fun _ => trivial
        | exact id
        | (exact fun q => q)
        | (simp [A0]; done)
        | (have hcr := getCell_rd (rd0 hys); rw [hC] at hcr; exact hcr)
        | fail
    · cases rb
      · simp only [c2]
        cbv
        refine pauseL hX (s' := [(0, .d (.slc 1 ys)), (10, .d (.sc (.bool false))), (11, .d (.slc 1 ys))]) (st' := [⟨37, lc, false, 0, true⟩]) (told_eq (by rw [hlc]) (by simp [toldP, getS])) ?_
        obtain ⟨fu, hfu⟩ : ∃ fu, fu = roomyX ys 8 := ⟨_, rfl⟩
        have hM8 : isM 8 := ⟨8, rfl⟩
        have hbn : (0 : Int) ≤ 0 ∧ 0 ≤ (ys.length : Int) ∧ (ys.length : Int) ≤ (fu.length : Int) := by
          have := roomy_len ys 8
          rw [← hfu] at this
          exact ⟨by omega, by omega, by omega⟩
        obtain ⟨⟨YY, ye⟩, hG⟩ : ∃ q, getLet ys = q := ⟨_, rfl⟩
        obtain ⟨y0_lkind, y1_src, y2_dst, y3_irep, y4_islot, y5_be, y6_br, y7_mkind, y8_mclient, y9_mseq, y10_mkey, y11_mfin, y12_mold, y13_mval, y14_tseq, y15_td0, y16_td1, y17_td2, y18_td3, y19_td4, y20_td5, y21_td6, y22_lstatus, y23_lpe, y24_lpr, y25_lve, y26_lvr, y27_lckind, y28_lcclient, y29_lcseq, y30_lckey, y31_lcfin, y32_lcold, y33_lcval, y34_laseq, y35_lad0, y36_lad1, y37_lad2, y38_lad3, y39_lad4, y40_lad5, y41_lad6, y42_lsame, y43_fd0, y44_fd1, y45_fd2, y46_fd3, y47_fd4, y48_fd5, y49_fd6, y50_data⟩ := YY
        obtain ⟨⟨CC, ca, cw⟩, hC⟩ : ∃ q, getCellX ys 0 0 = q := ⟨_, rfl⟩
        obtain ⟨u0, u1, u2, u3, u4, u5, u6, u7, u8, u9, u10, u11, u12, u13, u14, u15, u16, u17, u18, u19, u20⟩ := CC
        have j4 : GFsU.roomy ys 8 = fu := by subst hFsU; exact hfu.symm
        have j5 : A.sub fu 0 (A.len ys) = ys := by subst hA; show (fu.drop 0).take ((ys.length : Int).toNat - 0) = ys; rw [hfu, show (ys.length : Int).toNat - 0 = ys.length by omega]; exact roomy_take ys 8
        have j6 : GFsL6.getLet ys = ((⟨y0_lkind, y1_src, y2_dst, y3_irep, y4_islot, y5_be, y6_br, y7_mkind, y8_mclient, y9_mseq, y10_mkey, y11_mfin, y12_mold, y13_mval, y14_tseq, y15_td0, y16_td1, y17_td2, y18_td3, y19_td4, y20_td5, y21_td6, y22_lstatus, y23_lpe, y24_lpr, y25_lve, y26_lvr, y27_lckind, y28_lcclient, y29_lcseq, y30_lckey, y31_lcfin, y32_lcold, y33_lcval, y34_laseq, y35_lad0, y36_lad1, y37_lad2, y38_lad3, y39_lad4, y40_lad5, y41_lad6, y42_lsame, y43_fd0, y44_fd1, y45_fd2, y46_fd3, y47_fd4, y48_fd5, y49_fd6, y50_data⟩ : Letter), ye) := by subst hFsL6; exact hG
        have j7 : GFsL7.getLet2 ys = ((⟨y0_lkind, y1_src, y2_dst, y3_irep, y4_islot, y5_be, y6_br, y7_mkind, y8_mclient, y9_mseq, y10_mkey, y11_mfin, y12_mold, y13_mval, y14_tseq, y15_td0, y16_td1, y17_td2, y18_td3, y19_td4, y20_td5, y21_td6, y22_lstatus, y23_lpe, y24_lpr, y25_lve, y26_lvr, y27_lckind, y28_lcclient, y29_lcseq, y30_lckey, y31_lcfin, y32_lcold, y33_lcval, y34_laseq, y35_lad0, y36_lad1, y37_lad2, y38_lad3, y39_lad4, y40_lad5, y41_lad6, y42_lsame, y43_fd0, y44_fd1, y45_fd2, y46_fd3, y47_fd4, y48_fd5, y49_fd6, y50_data⟩ : Letter), ye) := by subst hFsL7; exact hG
        have j8 : GFsLG.cell ys 0 0 = ((⟨u0, u1, u2, u3, u4, u5, u6, u7, u8, u9, u10, u11, u12, u13, u14, u15, u16, u17, u18, u19, u20⟩ : Cell), ca, cw) := by subst hFsLG; exact hC
        have j9 : GFsLH.cell ys 0 0 = ((⟨u0, u1, u2, u3, u4, u5, u6, u7, u8, u9, u10, u11, u12, u13, u14, u15, u16, u17, u18, u19, u20⟩ : Cell), ca, cw) := by subst hFsLH; exact hC
        have jc : GFsU.intact fu ys 8 = true := by subst hFsU hfu; rfl
        have jd : GFsK.runs15 = true := by subst hFsK; rfl
        have je : A.cond true true false = true := by subst hA; rfl
        have jf : A.and true true = true := by subst hA; rfl
        have jg : A.cmp .eql ye ye = true := by subst hA; exact decide_eq_true rfl
        have jh : A.cmp .neq cw cw = false := by subst hA; show (!decide (cw = cw)) = false; rw [decide_eq_true rfl]; rfl
        have ji : A.not true = false := by subst hA; rfl
        have jk : A.cond false true false = false := by subst hA; rfl
        cbv at jf
        cbv at jg
        cbv at jh
        cbv at ji
        cbv at jk
        have rI : ∀ n : Int, A.cmp .eql n n = true := by subst hA; exact fun n => decide_eq_true rfl
        have rS : ∀ n : ByteArray, A.scmp .eql n n = true := by subst hA; exact fun n => decide_eq_true rfl
        have rB : ∀ n : Bool, A.beq n n = true := by subst hA; exact fun n => by cases n <;> rfl
        unfold Ar.cmp at rI
        unfold Ar.scmp at rS
        unfold Ar.beq at rB
        cbv at j4
        cbv at j5
        cbv at j6
        cbv at j7
        cbv at j8
        cbv at j9
        cbv at jc
        cbv at jd
        cbv at je
        with_reducible refine goL (T := fun _ => tabY [] []) (H := fun _ => [kn_light GFsL9, kn_rightL2 GFsR5, kn_within3 GFsQ, kn_roomy GFsU, kn_getLet GFsL6, kn_getLet2 GFsL7, kn_intact GFsU, kn_runs15 GFsK]) (tabY_ok _ _) hH follows_mixed hA hX ?_
        cbv
        repeat' first
          | (simp only [j4, j5, j6, j7, j8, j9, jc, jd, je, jf, jg, jh, ji, jk, rI, rS, rB]; cbv)
          | (refine And.intro ?_ ?_)
          | (refine part (fun h => ?_) (fun h => ?_) <;> try cbv)
          | ((with_reducible refine callB hX hB ?_) <;> cbv)
          | ((with_reducible refine regionL [25, 26] [0, 0, 0, 0, 0, 0, 1, 2, 2, 2, 2, 2, 2, 2, 2, 2, 2, 2] (T := fun _ => tabY [] []) (H := fun _ => [kn_light GFsL9, kn_rightL2 GFsR5, kn_within3 GFsQ, kn_roomy GFsU, kn_getLet GFsL6, kn_getLet2 GFsL7, kn_intact GFsU, kn_runs15 GFsK]) (B := fun _ => [kb_pRead GFsS, kb_rRead GFsS, kb_gCell GFsLG, kb_rCell GFsLH]) (R := fun _ => [kr_pwrong GFsR]) (A := A) (tabY_ok _ _) hH hB hR0 follows_mixed hA hX (by kernel_rfl) (by kernel_rfl) (by kernel_rfl) ?_) <;> cbv)
        all_goals clear hH hB hR0
        all_goals subst hA hX hW hFsR hFsL9 hFsR5 hFsQ hFsU hFsL6 hFsL7 hFsK hFsS hFsLG hFsLH
        all_goals first
          | exact hys
          | exact hys
          | exact hM8
          | exact hbn
          | exact rd0 hys
          | exact hfu
          | exact ret_v rfl rfl
          | exact fun _ => hM8
          | exact fun _ => hys
          | exact fun _ => hfu
          | exact fun _ => trivial
          | exact id
          | (exact fun q => q)
          | (simp [A0]; done)
          | (have hcr := getCell_rd (rd0 hys); rw [hC] at hcr; exact hcr)
          | fail
      · simp only [c3]
        cbv
        have hrl : rightL (⟨m_lkind, m_src, m_dst, m_irep, m_islot, m_be, m_br, m_mkind, m_mclient, m_mseq, m_mkey, m_mfin, m_mold, m_mval, m_tseq, m_td0, m_td1, m_td2, m_td3, m_td4, m_td5, m_td6, m_lstatus, m_lpe, m_lpr, m_lve, m_lvr, m_lckind, m_lcclient, m_lcseq, m_lckey, m_lcfin, m_lcold, m_lcval, m_laseq, m_lad0, m_lad1, m_lad2, m_lad3, m_lad4, m_lad5, m_lad6, m_lsame, m_fd0, m_fd1, m_fd2, m_fd3, m_fd4, m_fd5, m_fd6, m_data⟩ : Letter) = true := by subst hFsR5; exact hrb.symm
        obtain ⟨PL, hPL⟩ : ∃ PL, PL = putLet (⟨m_lkind, m_src, m_dst, m_irep, m_islot, m_be, m_br, m_mkind, m_mclient, m_mseq, m_mkey, m_mfin, m_mold, m_mval, m_tseq, m_td0, m_td1, m_td2, m_td3, m_td4, m_td5, m_td6, m_lstatus, m_lpe, m_lpr, m_lve, m_lvr, m_lckind, m_lcclient, m_lcseq, m_lckey, m_lcfin, m_lcold, m_lcval, m_laseq, m_lad0, m_lad1, m_lad2, m_lad3, m_lad4, m_lad5, m_lad6, m_lsame, m_fd0, m_fd1, m_fd2, m_fd3, m_fd4, m_fd5, m_fd6, m_data⟩ : Letter) := ⟨_, rfl⟩
        obtain ⟨pb, hpb⟩ : ∃ pb, pb = putLB (⟨m_lkind, m_src, m_dst, m_irep, m_islot, m_be, m_br, m_mkind, m_mclient, m_mseq, m_mkey, m_mfin, m_mold, m_mval, m_tseq, m_td0, m_td1, m_td2, m_td3, m_td4, m_td5, m_td6, m_lstatus, m_lpe, m_lpr, m_lve, m_lvr, m_lckind, m_lcclient, m_lcseq, m_lckey, m_lcfin, m_lcold, m_lcval, m_laseq, m_lad0, m_lad1, m_lad2, m_lad3, m_lad4, m_lad5, m_lad6, m_lsame, m_fd0, m_fd1, m_fd2, m_fd3, m_fd4, m_fd5, m_fd6, m_data⟩ : Letter) (namedP m_lkind).1 := ⟨_, rfl⟩
        have hPb : PL = bytesP pb := by rw [hPL, hpb]; exact putLet_eq hrl
        have hps : pb.length ≤ 1000000 := by rw [hpb]; exact Nat.le_trans (putLB_small hrl (namedP m_lkind).1) (by decide)
        have hpp : 0 < pb.length := by rw [hpb]; exact putLB_pos _ _
        have hW0 := w_putLetL (⟨m_lkind, m_src, m_dst, m_irep, m_islot, m_be, m_br, m_mkind, m_mclient, m_mseq, m_mkey, m_mfin, m_mold, m_mval, m_tseq, m_td0, m_td1, m_td2, m_td3, m_td4, m_td5, m_td6, m_lstatus, m_lpe, m_lpr, m_lve, m_lvr, m_lckind, m_lcclient, m_lcseq, m_lckey, m_lcfin, m_lcold, m_lcval, m_laseq, m_lad0, m_lad1, m_lad2, m_lad3, m_lad4, m_lad5, m_lad6, m_lsame, m_fd0, m_fd1, m_fd2, m_fd3, m_fd4, m_fd5, m_fd6, m_data⟩ : Letter) hp1 hrl
        rw [← hPL] at hW0
        obtain ⟨w, hw⟩ : ∃ w, w = within3 how_ 0 3 := ⟨_, rfl⟩
        have hwr := within_r3 how_ 3 (by decide)
        rw [← hw] at hwr
        obtain ⟨kk, hkk⟩ : ∃ kk, kk = within3 at_ 0 ((pb.length : Int) - 1) := ⟨_, rfl⟩
        have hkr := within_r3 at_ ((pb.length : Int) - 1) (by omega)
        rw [← hkk] at hkr
        have hkN : 0 ≤ kk ∧ kk.toNat < pb.length := by omega
        have y3 : GFsQ.within3 how_ 0 3 = w := by subst hFsQ; exact hw.symm
        have y5 : ∀ m : Nat, m = pb.length → GFsQ.within3 at_ 0 (A.bin .sub .i64 (A.int m) 1) = kk := fun m hm => by
          subst hFsQ hA
          show within3 at_ 0 (IntKind.wrap .i64 ((m : Int) - 1)) = kk
          rw [wrap_i64 (by unfold r64; omega), hkk, hm]
        cbv at y3
        with_reducible refine goL (T := fun _ => tabY [] []) (H := fun _ => [kn_light GFsL9, kn_rightL2 GFsR5, kn_within3 GFsQ, kn_roomy GFsU, kn_getLet GFsL6, kn_getLet2 GFsL7, kn_intact GFsU, kn_runs15 GFsK]) (tabY_ok _ _) hH follows_mixed hA hX ?_
        cbv
        refine callL hX (FnD.own hW0 rfl fun v cs mm hcs hm => ?_)
        have hmp : mm = pb.length := by rw [hm, hPb, bytesP_length]
        have y4 := y5 mm hmp
        cbv at y4
        cbv
        obtain hw4 | hw4 | hw4 | hw4 : w = 0 ∨ w = 1 ∨ w = 2 ∨ w = 3 := by omega
        all_goals subst hw4
        all_goals have z0 : A.cmp .eql 0 0 = true := by subst hA; rfl
        all_goals have z1 : A.cmp .eql 1 0 = false := by subst hA; rfl
        all_goals have z2 : A.cmp .eql 1 1 = true := by subst hA; rfl
        all_goals have z3 : A.cmp .eql 2 0 = false := by subst hA; rfl
        all_goals have z4 : A.cmp .eql 2 1 = false := by subst hA; rfl
        all_goals have z5 : A.cmp .eql 2 2 = true := by subst hA; rfl
        all_goals have z6 : A.cmp .eql 3 0 = false := by subst hA; rfl
        all_goals have z7 : A.cmp .eql 3 1 = false := by subst hA; rfl
        all_goals have z8 : A.cmp .eql 3 2 = false := by subst hA; rfl
        all_goals cbv at z0 z1 z2 z3 z4 z5 z6 z7 z8
        · skip
          repeat' first
            | (simp only [y3, y4, z0, z1, z2, z3, z4, z5, z6, z7, z8]; cbv)
            | (refine And.intro ?_ ?_)
          rotate_right 1
          · with_reducible refine goL (T := fun _ => tabY [46] []) (H := fun _ => [kn_light GFsL9, kn_rightL2 GFsR5, kn_within3 GFsQ, kn_roomy GFsU, kn_getLet GFsL6, kn_getLet2 GFsL7, kn_intact GFsU, kn_runs15 GFsK]) (tabY_ok _ _) hH follows_mixed hA hX ?_
            cbv
            repeat' (refine And.intro ?_ ?_)
            rotate_right 1
            · obtain ⟨rc, hrc0⟩ : ∃ rc, rc = A.spl cs (A.off 0 kk 1) [.d (.sc (.int .u8 to_))] := ⟨_, rfl⟩
              have e7 : A.spl cs (A.off 0 kk 1) [.d (.sc (.int .u8 to_))] = rc := hrc0.symm
              obtain ⟨qb, hqb⟩ : ∃ qb, qb = pb.set kk.toNat (UInt8.ofNat to_.toNat) := ⟨_, rfl⟩
              obtain ⟨os, hos0⟩ : ∃ os, os = bytesP qb := ⟨_, rfl⟩
              have hql : qb.length = pb.length := by rw [hqb, List.length_set]
              have hos : isB8 os := ⟨qb, hos0, by omega⟩
              have hrc : rc = rowsD os := by
                rw [hrc0, hos0, hqb, hcs, hPb]
                subst hA
                show splice (rowsD (bytesP pb)) (0 + kk.toNat * 1) _ = _
                rw [Nat.zero_add, Nat.mul_one]
                exact bytesR2_spl hkN.2 hto
              have hml : mm = os.length := by rw [hos0, bytesP_length, hql, hmp]
              cbv at e7
              simp only [e7]
              refine pauseL hX (s' := [(0, .d (.slc 1 ys)), (10, .d (.sc (.bool false))), (11, .d (.slc 1 os))]) (st' := [⟨37, ((.d (.sc (.int .i64 m_lkind))) :: (.d (.sc (.int .i64 m_src))) :: (.d (.sc (.int .i64 m_dst))) :: (.d (.sc (.int .i64 m_irep))) :: (.d (.sc (.int .i64 m_islot))) :: (.d (.sc (.int .i64 m_be))) :: (.d (.sc (.int .i64 m_br))) :: (.d (.sc (.int .i64 m_mkind))) :: (.d (.sc (.int .i64 m_mclient))) :: (.d (.sc (.int .i64 m_mseq))) :: (.d (.sc (.string m_mkey))) :: (.d (.sc (.string m_mfin))) :: (.d (.sc (.string m_mold))) :: (.d (.sc (.string m_mval))) :: (.d (.sc (.int .i64 m_tseq))) :: (.d (.sc (.int .i64 m_td0))) :: (.d (.sc (.int .i64 m_td1))) :: (.d (.sc (.int .i64 m_td2))) :: (.d (.sc (.int .i64 m_td3))) :: (.d (.sc (.int .i64 m_td4))) :: (.d (.sc (.int .i64 m_td5))) :: (.d (.sc (.int .i64 m_td6))) :: (.d (.sc (.int .i64 m_lstatus))) :: (.d (.sc (.int .i64 m_lpe))) :: (.d (.sc (.int .i64 m_lpr))) :: (.d (.sc (.int .i64 m_lve))) :: (.d (.sc (.int .i64 m_lvr))) :: (.d (.sc (.int .i64 m_lckind))) :: (.d (.sc (.int .i64 m_lcclient))) :: (.d (.sc (.int .i64 m_lcseq))) :: (.d (.sc (.string m_lckey))) :: (.d (.sc (.string m_lcfin))) :: (.d (.sc (.string m_lcold))) :: (.d (.sc (.string m_lcval))) :: (.d (.sc (.int .i64 m_laseq))) :: (.d (.sc (.int .i64 m_lad0))) :: (.d (.sc (.int .i64 m_lad1))) :: (.d (.sc (.int .i64 m_lad2))) :: (.d (.sc (.int .i64 m_lad3))) :: (.d (.sc (.int .i64 m_lad4))) :: (.d (.sc (.int .i64 m_lad5))) :: (.d (.sc (.int .i64 m_lad6))) :: (.d (.sc (.bool m_lsame))) :: (.d (.sc (.int .i64 m_fd0))) :: (.d (.sc (.int .i64 m_fd1))) :: (.d (.sc (.int .i64 m_fd2))) :: (.d (.sc (.int .i64 m_fd3))) :: (.d (.sc (.int .i64 m_fd4))) :: (.d (.sc (.int .i64 m_fd5))) :: (.d (.sc (.int .i64 m_fd6))) :: (.d (.sc (.string m_data))) :: []), false, 0, true⟩, ⟨5, [], false, v + 1, false⟩]) (told_freeze2 1 1 os ⟨5, rc, true, v, true⟩ rfl rfl hrc (by rw [hos0]; exact bytesP_sz qb) rfl ⟨.inl rfl, .inl rfl, .inl (by simp [getS, fzD, hml]), trivial⟩) ?_
              obtain ⟨fu, hfu⟩ : ∃ fu, fu = roomyX os 8 := ⟨_, rfl⟩
              have hM8 : isM 8 := ⟨8, rfl⟩
              have hbn : (0 : Int) ≤ 0 ∧ 0 ≤ (os.length : Int) ∧ (os.length : Int) ≤ (fu.length : Int) := by
                have := roomy_len os 8
                rw [← hfu] at this
                exact ⟨by omega, by omega, by omega⟩
              obtain ⟨⟨YY, ye⟩, hG⟩ : ∃ q, getLet os = q := ⟨_, rfl⟩
              obtain ⟨y0_lkind, y1_src, y2_dst, y3_irep, y4_islot, y5_be, y6_br, y7_mkind, y8_mclient, y9_mseq, y10_mkey, y11_mfin, y12_mold, y13_mval, y14_tseq, y15_td0, y16_td1, y17_td2, y18_td3, y19_td4, y20_td5, y21_td6, y22_lstatus, y23_lpe, y24_lpr, y25_lve, y26_lvr, y27_lckind, y28_lcclient, y29_lcseq, y30_lckey, y31_lcfin, y32_lcold, y33_lcval, y34_laseq, y35_lad0, y36_lad1, y37_lad2, y38_lad3, y39_lad4, y40_lad5, y41_lad6, y42_lsame, y43_fd0, y44_fd1, y45_fd2, y46_fd3, y47_fd4, y48_fd5, y49_fd6, y50_data⟩ := YY
              obtain ⟨⟨CC, ca, cw⟩, hC⟩ : ∃ q, getCellX ys 0 0 = q := ⟨_, rfl⟩
              obtain ⟨u0, u1, u2, u3, u4, u5, u6, u7, u8, u9, u10, u11, u12, u13, u14, u15, u16, u17, u18, u19, u20⟩ := CC
              have j4 : GFsU.roomy os 8 = fu := by subst hFsU; exact hfu.symm
              have j5 : A.sub fu 0 (A.len os) = os := by subst hA; show (fu.drop 0).take ((os.length : Int).toNat - 0) = os; rw [hfu, show (os.length : Int).toNat - 0 = os.length by omega]; exact roomy_take os 8
              have j6 : GFsL6.getLet os = ((⟨y0_lkind, y1_src, y2_dst, y3_irep, y4_islot, y5_be, y6_br, y7_mkind, y8_mclient, y9_mseq, y10_mkey, y11_mfin, y12_mold, y13_mval, y14_tseq, y15_td0, y16_td1, y17_td2, y18_td3, y19_td4, y20_td5, y21_td6, y22_lstatus, y23_lpe, y24_lpr, y25_lve, y26_lvr, y27_lckind, y28_lcclient, y29_lcseq, y30_lckey, y31_lcfin, y32_lcold, y33_lcval, y34_laseq, y35_lad0, y36_lad1, y37_lad2, y38_lad3, y39_lad4, y40_lad5, y41_lad6, y42_lsame, y43_fd0, y44_fd1, y45_fd2, y46_fd3, y47_fd4, y48_fd5, y49_fd6, y50_data⟩ : Letter), ye) := by subst hFsL6; exact hG
              have j7 : GFsL7.getLet2 os = ((⟨y0_lkind, y1_src, y2_dst, y3_irep, y4_islot, y5_be, y6_br, y7_mkind, y8_mclient, y9_mseq, y10_mkey, y11_mfin, y12_mold, y13_mval, y14_tseq, y15_td0, y16_td1, y17_td2, y18_td3, y19_td4, y20_td5, y21_td6, y22_lstatus, y23_lpe, y24_lpr, y25_lve, y26_lvr, y27_lckind, y28_lcclient, y29_lcseq, y30_lckey, y31_lcfin, y32_lcold, y33_lcval, y34_laseq, y35_lad0, y36_lad1, y37_lad2, y38_lad3, y39_lad4, y40_lad5, y41_lad6, y42_lsame, y43_fd0, y44_fd1, y45_fd2, y46_fd3, y47_fd4, y48_fd5, y49_fd6, y50_data⟩ : Letter), ye) := by subst hFsL7; exact hG
              have j8 : GFsLG.cell ys 0 0 = ((⟨u0, u1, u2, u3, u4, u5, u6, u7, u8, u9, u10, u11, u12, u13, u14, u15, u16, u17, u18, u19, u20⟩ : Cell), ca, cw) := by subst hFsLG; exact hC
              have j9 : GFsLH.cell ys 0 0 = ((⟨u0, u1, u2, u3, u4, u5, u6, u7, u8, u9, u10, u11, u12, u13, u14, u15, u16, u17, u18, u19, u20⟩ : Cell), ca, cw) := by subst hFsLH; exact hC
              have jc : GFsU.intact fu os 8 = true := by subst hFsU hfu; rfl
              have jd : GFsK.runs15 = true := by subst hFsK; rfl
              have je : A.cond true true false = true := by subst hA; rfl
              have jf : A.and true true = true := by subst hA; rfl
              have jg : A.cmp .eql ye ye = true := by subst hA; exact decide_eq_true rfl
              have jh : A.cmp .neq cw cw = false := by subst hA; show (!decide (cw = cw)) = false; rw [decide_eq_true rfl]; rfl
              have ji : A.not true = false := by subst hA; rfl
              have jk : A.cond false true false = false := by subst hA; rfl
              cbv at jf
              cbv at jg
              cbv at jh
              cbv at ji
              cbv at jk
              have rI : ∀ n : Int, A.cmp .eql n n = true := by subst hA; exact fun n => decide_eq_true rfl
              have rS : ∀ n : ByteArray, A.scmp .eql n n = true := by subst hA; exact fun n => decide_eq_true rfl
              have rB : ∀ n : Bool, A.beq n n = true := by subst hA; exact fun n => by cases n <;> rfl
              unfold Ar.cmp at rI
              unfold Ar.scmp at rS
              unfold Ar.beq at rB
              cbv at j4
              cbv at j5
              cbv at j6
              cbv at j7
              cbv at j8
              cbv at j9
              cbv at jc
              cbv at jd
              cbv at je
              with_reducible refine goL (T := fun _ => tabY [] []) (H := fun _ => [kn_light GFsL9, kn_rightL2 GFsR5, kn_within3 GFsQ, kn_roomy GFsU, kn_getLet GFsL6, kn_getLet2 GFsL7, kn_intact GFsU, kn_runs15 GFsK]) (tabY_ok _ _) hH follows_mixed hA hX ?_
              cbv
              repeat' first
                | (simp only [j4, j5, j6, j7, j8, j9, jc, jd, je, jf, jg, jh, ji, jk, rI, rS, rB]; cbv)
                | (refine And.intro ?_ ?_)
                | (refine part (fun h => ?_) (fun h => ?_) <;> try cbv)
                | ((with_reducible refine callB hX hB ?_) <;> cbv)
                | ((with_reducible refine regionL [25, 26] [0, 0, 0, 0, 0, 0, 1, 2, 2, 2, 2, 2, 2, 2, 2, 2, 2, 2] (T := fun _ => tabY [] []) (H := fun _ => [kn_light GFsL9, kn_rightL2 GFsR5, kn_within3 GFsQ, kn_roomy GFsU, kn_getLet GFsL6, kn_getLet2 GFsL7, kn_intact GFsU, kn_runs15 GFsK]) (B := fun _ => [kb_pRead GFsS, kb_rRead GFsS, kb_gCell GFsLG, kb_rCell GFsLH]) (R := fun _ => [kr_pwrong GFsR]) (A := A) (tabY_ok _ _) hH hB hR0 follows_mixed hA hX (by kernel_rfl) (by kernel_rfl) (by kernel_rfl) ?_) <;> cbv)
              all_goals clear hH hB hR0
              all_goals subst hA hX hW hFsR hFsL9 hFsR5 hFsQ hFsU hFsL6 hFsL7 hFsK hFsS hFsLG hFsLH
              all_goals first
                | exact hos
                | exact hys
                | exact hM8
                | exact hbn
                | exact rd0 hys
                | exact hfu
                | exact ret_v rfl rfl
                | exact fun _ => hM8
                | exact fun _ => hos
                | exact fun _ => hfu
                | exact fun _ => trivial
                | exact id
                | (exact fun q => q)
                | (simp [A0]; done)
                | (have hcr := getCell_rd (rd0 hys); rw [hC] at hcr; exact hcr)
                | fail
            all_goals subst hA
            all_goals first
              | exact rfl
              | exact (⟨by omega, by omega⟩ : (0 : Int) ≤ kk ∧ kk < (mm : Int))
              | (show 0 + kk.toNat * 1 + 1 ≤ cs.length; rw [hcs, hPb, rowsB_length]; omega)
              | fail
          all_goals clear hH hB hR0
          all_goals subst hA hFsQ
          all_goals first
            | exact rfl
            | exact hat
            | exact hho
            | exact ⟨by decide, by decide, by decide⟩
            | (show span3 0 (IntKind.wrap .i64 ((mm : Int) - 1)); rw [wrap_i64 (by unfold r64; omega)]; exact ⟨by omega, by omega, by omega⟩)
            | fail
        · skip
          repeat' first
            | (simp only [y3, y4, z0, z1, z2, z3, z4, z5, z6, z7, z8]; cbv)
            | (refine And.intro ?_ ?_)
          rotate_right 1
          · refine pauseL hX (s' := [(0, .d (.slc 1 ys)), (10, .d (.sc (.bool false))), (11, .d (.slc 1 PL)), (12, .d (.sc (.int .i64 kk)))]) (st' := [⟨37, ((.d (.sc (.int .i64 m_lkind))) :: (.d (.sc (.int .i64 m_src))) :: (.d (.sc (.int .i64 m_dst))) :: (.d (.sc (.int .i64 m_irep))) :: (.d (.sc (.int .i64 m_islot))) :: (.d (.sc (.int .i64 m_be))) :: (.d (.sc (.int .i64 m_br))) :: (.d (.sc (.int .i64 m_mkind))) :: (.d (.sc (.int .i64 m_mclient))) :: (.d (.sc (.int .i64 m_mseq))) :: (.d (.sc (.string m_mkey))) :: (.d (.sc (.string m_mfin))) :: (.d (.sc (.string m_mold))) :: (.d (.sc (.string m_mval))) :: (.d (.sc (.int .i64 m_tseq))) :: (.d (.sc (.int .i64 m_td0))) :: (.d (.sc (.int .i64 m_td1))) :: (.d (.sc (.int .i64 m_td2))) :: (.d (.sc (.int .i64 m_td3))) :: (.d (.sc (.int .i64 m_td4))) :: (.d (.sc (.int .i64 m_td5))) :: (.d (.sc (.int .i64 m_td6))) :: (.d (.sc (.int .i64 m_lstatus))) :: (.d (.sc (.int .i64 m_lpe))) :: (.d (.sc (.int .i64 m_lpr))) :: (.d (.sc (.int .i64 m_lve))) :: (.d (.sc (.int .i64 m_lvr))) :: (.d (.sc (.int .i64 m_lckind))) :: (.d (.sc (.int .i64 m_lcclient))) :: (.d (.sc (.int .i64 m_lcseq))) :: (.d (.sc (.string m_lckey))) :: (.d (.sc (.string m_lcfin))) :: (.d (.sc (.string m_lcold))) :: (.d (.sc (.string m_lcval))) :: (.d (.sc (.int .i64 m_laseq))) :: (.d (.sc (.int .i64 m_lad0))) :: (.d (.sc (.int .i64 m_lad1))) :: (.d (.sc (.int .i64 m_lad2))) :: (.d (.sc (.int .i64 m_lad3))) :: (.d (.sc (.int .i64 m_lad4))) :: (.d (.sc (.int .i64 m_lad5))) :: (.d (.sc (.int .i64 m_lad6))) :: (.d (.sc (.bool m_lsame))) :: (.d (.sc (.int .i64 m_fd0))) :: (.d (.sc (.int .i64 m_fd1))) :: (.d (.sc (.int .i64 m_fd2))) :: (.d (.sc (.int .i64 m_fd3))) :: (.d (.sc (.int .i64 m_fd4))) :: (.d (.sc (.int .i64 m_fd5))) :: (.d (.sc (.int .i64 m_fd6))) :: (.d (.sc (.string m_data))) :: []), false, 0, true⟩, ⟨5, [], false, v + 1, false⟩]) (told_freeze2 1 1 PL ⟨5, cs, true, v, true⟩ rfl rfl hcs (by rw [hPb]; exact bytesP_sz pb) rfl ⟨.inl rfl, .inl rfl, .inl (by simp [getS, fzD, hm]), .inl rfl, trivial⟩) ?_
            obtain ⟨os, hos0⟩ : ∃ os, os = bytesP (pb.take kk.toNat) := ⟨_, rfl⟩
            have hos : isB8 os := ⟨_, hos0, by rw [List.length_take]; omega⟩
            have e8 : A.sub PL 0 kk = os := by
              subst hA
              show (PL.drop 0).take (kk.toNat - 0) = os
              rw [List.drop_zero, Nat.sub_zero, hos0, hPb, bytesP, bytesP, List.map_take]
            have hbk : (0 : Int) ≤ 0 ∧ 0 ≤ kk ∧ kk ≤ (PL.length : Int) := by rw [hPb, bytesP_length]; exact ⟨by omega, by omega, by omega⟩
            cbv at e8
            with_reducible refine goL (T := fun _ => tabY [] []) (H := fun _ => [kn_light GFsL9, kn_rightL2 GFsR5, kn_within3 GFsQ, kn_roomy GFsU, kn_getLet GFsL6, kn_getLet2 GFsL7, kn_intact GFsU, kn_runs15 GFsK]) (tabY_ok _ _) hH follows_mixed hA hX ?_
            cbv
            simp only [e8]
            refine And.intro (by subst hA; exact hbk) ?_
            refine pauseL hX (s' := [(0, .d (.slc 1 ys)), (10, .d (.sc (.bool false))), (11, .d (.slc 1 os))]) (told_less (by simp [toldP, getS])) ?_
            obtain ⟨fu, hfu⟩ : ∃ fu, fu = roomyX os 8 := ⟨_, rfl⟩
            have hM8 : isM 8 := ⟨8, rfl⟩
            have hbn : (0 : Int) ≤ 0 ∧ 0 ≤ (os.length : Int) ∧ (os.length : Int) ≤ (fu.length : Int) := by
              have := roomy_len os 8
              rw [← hfu] at this
              exact ⟨by omega, by omega, by omega⟩
            obtain ⟨⟨YY, ye⟩, hG⟩ : ∃ q, getLet os = q := ⟨_, rfl⟩
            obtain ⟨y0_lkind, y1_src, y2_dst, y3_irep, y4_islot, y5_be, y6_br, y7_mkind, y8_mclient, y9_mseq, y10_mkey, y11_mfin, y12_mold, y13_mval, y14_tseq, y15_td0, y16_td1, y17_td2, y18_td3, y19_td4, y20_td5, y21_td6, y22_lstatus, y23_lpe, y24_lpr, y25_lve, y26_lvr, y27_lckind, y28_lcclient, y29_lcseq, y30_lckey, y31_lcfin, y32_lcold, y33_lcval, y34_laseq, y35_lad0, y36_lad1, y37_lad2, y38_lad3, y39_lad4, y40_lad5, y41_lad6, y42_lsame, y43_fd0, y44_fd1, y45_fd2, y46_fd3, y47_fd4, y48_fd5, y49_fd6, y50_data⟩ := YY
            obtain ⟨⟨CC, ca, cw⟩, hC⟩ : ∃ q, getCellX ys 0 0 = q := ⟨_, rfl⟩
            obtain ⟨u0, u1, u2, u3, u4, u5, u6, u7, u8, u9, u10, u11, u12, u13, u14, u15, u16, u17, u18, u19, u20⟩ := CC
            have j4 : GFsU.roomy os 8 = fu := by subst hFsU; exact hfu.symm
            have j5 : A.sub fu 0 (A.len os) = os := by subst hA; show (fu.drop 0).take ((os.length : Int).toNat - 0) = os; rw [hfu, show (os.length : Int).toNat - 0 = os.length by omega]; exact roomy_take os 8
            have j6 : GFsL6.getLet os = ((⟨y0_lkind, y1_src, y2_dst, y3_irep, y4_islot, y5_be, y6_br, y7_mkind, y8_mclient, y9_mseq, y10_mkey, y11_mfin, y12_mold, y13_mval, y14_tseq, y15_td0, y16_td1, y17_td2, y18_td3, y19_td4, y20_td5, y21_td6, y22_lstatus, y23_lpe, y24_lpr, y25_lve, y26_lvr, y27_lckind, y28_lcclient, y29_lcseq, y30_lckey, y31_lcfin, y32_lcold, y33_lcval, y34_laseq, y35_lad0, y36_lad1, y37_lad2, y38_lad3, y39_lad4, y40_lad5, y41_lad6, y42_lsame, y43_fd0, y44_fd1, y45_fd2, y46_fd3, y47_fd4, y48_fd5, y49_fd6, y50_data⟩ : Letter), ye) := by subst hFsL6; exact hG
            have j7 : GFsL7.getLet2 os = ((⟨y0_lkind, y1_src, y2_dst, y3_irep, y4_islot, y5_be, y6_br, y7_mkind, y8_mclient, y9_mseq, y10_mkey, y11_mfin, y12_mold, y13_mval, y14_tseq, y15_td0, y16_td1, y17_td2, y18_td3, y19_td4, y20_td5, y21_td6, y22_lstatus, y23_lpe, y24_lpr, y25_lve, y26_lvr, y27_lckind, y28_lcclient, y29_lcseq, y30_lckey, y31_lcfin, y32_lcold, y33_lcval, y34_laseq, y35_lad0, y36_lad1, y37_lad2, y38_lad3, y39_lad4, y40_lad5, y41_lad6, y42_lsame, y43_fd0, y44_fd1, y45_fd2, y46_fd3, y47_fd4, y48_fd5, y49_fd6, y50_data⟩ : Letter), ye) := by subst hFsL7; exact hG
            have j8 : GFsLG.cell ys 0 0 = ((⟨u0, u1, u2, u3, u4, u5, u6, u7, u8, u9, u10, u11, u12, u13, u14, u15, u16, u17, u18, u19, u20⟩ : Cell), ca, cw) := by subst hFsLG; exact hC
            have j9 : GFsLH.cell ys 0 0 = ((⟨u0, u1, u2, u3, u4, u5, u6, u7, u8, u9, u10, u11, u12, u13, u14, u15, u16, u17, u18, u19, u20⟩ : Cell), ca, cw) := by subst hFsLH; exact hC
            have jc : GFsU.intact fu os 8 = true := by subst hFsU hfu; rfl
            have jd : GFsK.runs15 = true := by subst hFsK; rfl
            have je : A.cond true true false = true := by subst hA; rfl
            have jf : A.and true true = true := by subst hA; rfl
            have jg : A.cmp .eql ye ye = true := by subst hA; exact decide_eq_true rfl
            have jh : A.cmp .neq cw cw = false := by subst hA; show (!decide (cw = cw)) = false; rw [decide_eq_true rfl]; rfl
            have ji : A.not true = false := by subst hA; rfl
            have jk : A.cond false true false = false := by subst hA; rfl
            cbv at jf
            cbv at jg
            cbv at jh
            cbv at ji
            cbv at jk
            have rI : ∀ n : Int, A.cmp .eql n n = true := by subst hA; exact fun n => decide_eq_true rfl
            have rS : ∀ n : ByteArray, A.scmp .eql n n = true := by subst hA; exact fun n => decide_eq_true rfl
            have rB : ∀ n : Bool, A.beq n n = true := by subst hA; exact fun n => by cases n <;> rfl
            unfold Ar.cmp at rI
            unfold Ar.scmp at rS
            unfold Ar.beq at rB
            cbv at j4
            cbv at j5
            cbv at j6
            cbv at j7
            cbv at j8
            cbv at j9
            cbv at jc
            cbv at jd
            cbv at je
            with_reducible refine goL (T := fun _ => tabY [] []) (H := fun _ => [kn_light GFsL9, kn_rightL2 GFsR5, kn_within3 GFsQ, kn_roomy GFsU, kn_getLet GFsL6, kn_getLet2 GFsL7, kn_intact GFsU, kn_runs15 GFsK]) (tabY_ok _ _) hH follows_mixed hA hX ?_
            cbv
            repeat' first
              | (simp only [j4, j5, j6, j7, j8, j9, jc, jd, je, jf, jg, jh, ji, jk, rI, rS, rB]; cbv)
              | (refine And.intro ?_ ?_)
              | (refine part (fun h => ?_) (fun h => ?_) <;> try cbv)
              | ((with_reducible refine callB hX hB ?_) <;> cbv)
              | ((with_reducible refine regionL [25, 26] [0, 0, 0, 0, 0, 0, 1, 2, 2, 2, 2, 2, 2, 2, 2, 2, 2, 2] (T := fun _ => tabY [] []) (H := fun _ => [kn_light GFsL9, kn_rightL2 GFsR5, kn_within3 GFsQ, kn_roomy GFsU, kn_getLet GFsL6, kn_getLet2 GFsL7, kn_intact GFsU, kn_runs15 GFsK]) (B := fun _ => [kb_pRead GFsS, kb_rRead GFsS, kb_gCell GFsLG, kb_rCell GFsLH]) (R := fun _ => [kr_pwrong GFsR]) (A := A) (tabY_ok _ _) hH hB hR0 follows_mixed hA hX (by kernel_rfl) (by kernel_rfl) (by kernel_rfl) ?_) <;> cbv)
            all_goals clear hH hB hR0
            all_goals subst hA hX hW hFsR hFsL9 hFsR5 hFsQ hFsU hFsL6 hFsL7 hFsK hFsS hFsLG hFsLH
            all_goals first
              | exact hos
              | exact hys
              | exact hM8
              | exact hbn
              | exact rd0 hys
              | exact hfu
              | exact ret_v rfl rfl
              | exact fun _ => hM8
              | exact fun _ => hos
              | exact fun _ => hfu
              | exact fun _ => trivial
              | exact id
              | (exact fun q => q)
              | (simp [A0]; done)
              | (have hcr := getCell_rd (rd0 hys); rw [hC] at hcr; exact hcr)
              | fail
          all_goals clear hH hB hR0
          all_goals subst hA hFsQ
          all_goals first
            | exact rfl
            | exact hat
            | exact hho
            | exact ⟨by decide, by decide, by decide⟩
            | (show span3 0 (IntKind.wrap .i64 ((mm : Int) - 1)); rw [wrap_i64 (by unfold r64; omega)]; exact ⟨by omega, by omega, by omega⟩)
            | fail
        · skip
          repeat' first
            | (simp only [y3, y4, z0, z1, z2, z3, z4, z5, z6, z7, z8]; cbv)
            | (refine And.intro ?_ ?_)
          rotate_right 1
          · with_reducible refine goL (T := fun _ => tabY [] []) (H := fun _ => [kn_light GFsL9, kn_rightL2 GFsR5, kn_within3 GFsQ, kn_roomy GFsU, kn_getLet GFsL6, kn_getLet2 GFsL7, kn_intact GFsU, kn_runs15 GFsK]) (tabY_ok _ _) hH follows_mixed hA hX ?_
            cbv
            repeat' (refine And.intro ?_ ?_)
            rotate_right 1
            · obtain ⟨qb, hqb⟩ : ∃ qb, qb = pb ++ [UInt8.ofNat to_.toNat] := ⟨_, rfl⟩
              obtain ⟨os, hos0⟩ : ∃ os, os = bytesP qb := ⟨_, rfl⟩
              have hos : isB8 os := ⟨qb, hos0, by rw [hqb, List.length_append, List.length_singleton]; omega⟩
              have hto2 : (((UInt8.ofNat to_.toNat).toNat : Nat) : Int) = to_ := by simp; omega
              have hra : rowsD os = cs ++ [.d (.sc (.int .u8 to_))] := by rw [hos0, hqb, rowsB_append, rowsB_one, hcs, hPb, hto2]
              have hml : mm + 1 = os.length := by rw [hos0, bytesP_length, hqb, List.length_append, List.length_singleton, hmp]
              have hmA : A.pl mm 1 = os.length := by subst hA; exact hml
              have hcA : A.app cs (A.tk [.d (.sc (.int .u8 to_))] 0 1 1) = rowsD os := by subst hA; rw [hra]; rfl
              obtain ⟨nv, hnv⟩ : ∃ z, z = A.nxt v := ⟨_, rfl⟩
              obtain ⟨nm, hnm⟩ : ∃ z, z = A.pl mm 1 := ⟨_, rfl⟩
              obtain ⟨nc, hnc⟩ : ∃ z, z = A.app cs (A.tk [.d (.sc (.int .u8 to_))] 0 1 1) := ⟨_, rfl⟩
              rw [← hnm] at hmA
              rw [← hnc] at hcA
              cbv at hnv hnm hnc
              simp only [← hnv, ← hnm, ← hnc]
              refine pauseL hX (s' := [(0, .d (.slc 1 ys)), (10, .d (.sc (.bool false))), (11, .d (.slc 1 os))]) (st' := [⟨37, ((.d (.sc (.int .i64 m_lkind))) :: (.d (.sc (.int .i64 m_src))) :: (.d (.sc (.int .i64 m_dst))) :: (.d (.sc (.int .i64 m_irep))) :: (.d (.sc (.int .i64 m_islot))) :: (.d (.sc (.int .i64 m_be))) :: (.d (.sc (.int .i64 m_br))) :: (.d (.sc (.int .i64 m_mkind))) :: (.d (.sc (.int .i64 m_mclient))) :: (.d (.sc (.int .i64 m_mseq))) :: (.d (.sc (.string m_mkey))) :: (.d (.sc (.string m_mfin))) :: (.d (.sc (.string m_mold))) :: (.d (.sc (.string m_mval))) :: (.d (.sc (.int .i64 m_tseq))) :: (.d (.sc (.int .i64 m_td0))) :: (.d (.sc (.int .i64 m_td1))) :: (.d (.sc (.int .i64 m_td2))) :: (.d (.sc (.int .i64 m_td3))) :: (.d (.sc (.int .i64 m_td4))) :: (.d (.sc (.int .i64 m_td5))) :: (.d (.sc (.int .i64 m_td6))) :: (.d (.sc (.int .i64 m_lstatus))) :: (.d (.sc (.int .i64 m_lpe))) :: (.d (.sc (.int .i64 m_lpr))) :: (.d (.sc (.int .i64 m_lve))) :: (.d (.sc (.int .i64 m_lvr))) :: (.d (.sc (.int .i64 m_lckind))) :: (.d (.sc (.int .i64 m_lcclient))) :: (.d (.sc (.int .i64 m_lcseq))) :: (.d (.sc (.string m_lckey))) :: (.d (.sc (.string m_lcfin))) :: (.d (.sc (.string m_lcold))) :: (.d (.sc (.string m_lcval))) :: (.d (.sc (.int .i64 m_laseq))) :: (.d (.sc (.int .i64 m_lad0))) :: (.d (.sc (.int .i64 m_lad1))) :: (.d (.sc (.int .i64 m_lad2))) :: (.d (.sc (.int .i64 m_lad3))) :: (.d (.sc (.int .i64 m_lad4))) :: (.d (.sc (.int .i64 m_lad5))) :: (.d (.sc (.int .i64 m_lad6))) :: (.d (.sc (.bool m_lsame))) :: (.d (.sc (.int .i64 m_fd0))) :: (.d (.sc (.int .i64 m_fd1))) :: (.d (.sc (.int .i64 m_fd2))) :: (.d (.sc (.int .i64 m_fd3))) :: (.d (.sc (.int .i64 m_fd4))) :: (.d (.sc (.int .i64 m_fd5))) :: (.d (.sc (.int .i64 m_fd6))) :: (.d (.sc (.string m_data))) :: []), false, 0, true⟩, ⟨5, [], false, nv + 1, false⟩, ⟨5, [.d (.sc (.int .u8 to_))], false, 0, true⟩]) (told_freeze2 1 1 os ⟨5, nc, true, nv, true⟩ rfl rfl hcA (by rw [hos0]; exact bytesP_sz qb) rfl ⟨.inl rfl, .inl rfl, .inl (by simp [getS, fzD, hmA]), trivial⟩) ?_
              obtain ⟨fu, hfu⟩ : ∃ fu, fu = roomyX os 8 := ⟨_, rfl⟩
              have hM8 : isM 8 := ⟨8, rfl⟩
              have hbn : (0 : Int) ≤ 0 ∧ 0 ≤ (os.length : Int) ∧ (os.length : Int) ≤ (fu.length : Int) := by
                have := roomy_len os 8
                rw [← hfu] at this
                exact ⟨by omega, by omega, by omega⟩
              obtain ⟨⟨YY, ye⟩, hG⟩ : ∃ q, getLet os = q := ⟨_, rfl⟩
              obtain ⟨y0_lkind, y1_src, y2_dst, y3_irep, y4_islot, y5_be, y6_br, y7_mkind, y8_mclient, y9_mseq, y10_mkey, y11_mfin, y12_mold, y13_mval, y14_tseq, y15_td0, y16_td1, y17_td2, y18_td3, y19_td4, y20_td5, y21_td6, y22_lstatus, y23_lpe, y24_lpr, y25_lve, y26_lvr, y27_lckind, y28_lcclient, y29_lcseq, y30_lckey, y31_lcfin, y32_lcold, y33_lcval, y34_laseq, y35_lad0, y36_lad1, y37_lad2, y38_lad3, y39_lad4, y40_lad5, y41_lad6, y42_lsame, y43_fd0, y44_fd1, y45_fd2, y46_fd3, y47_fd4, y48_fd5, y49_fd6, y50_data⟩ := YY
              obtain ⟨⟨CC, ca, cw⟩, hC⟩ : ∃ q, getCellX ys 0 0 = q := ⟨_, rfl⟩
              obtain ⟨u0, u1, u2, u3, u4, u5, u6, u7, u8, u9, u10, u11, u12, u13, u14, u15, u16, u17, u18, u19, u20⟩ := CC
              have j4 : GFsU.roomy os 8 = fu := by subst hFsU; exact hfu.symm
              have j5 : A.sub fu 0 (A.len os) = os := by subst hA; show (fu.drop 0).take ((os.length : Int).toNat - 0) = os; rw [hfu, show (os.length : Int).toNat - 0 = os.length by omega]; exact roomy_take os 8
              have j6 : GFsL6.getLet os = ((⟨y0_lkind, y1_src, y2_dst, y3_irep, y4_islot, y5_be, y6_br, y7_mkind, y8_mclient, y9_mseq, y10_mkey, y11_mfin, y12_mold, y13_mval, y14_tseq, y15_td0, y16_td1, y17_td2, y18_td3, y19_td4, y20_td5, y21_td6, y22_lstatus, y23_lpe, y24_lpr, y25_lve, y26_lvr, y27_lckind, y28_lcclient, y29_lcseq, y30_lckey, y31_lcfin, y32_lcold, y33_lcval, y34_laseq, y35_lad0, y36_lad1, y37_lad2, y38_lad3, y39_lad4, y40_lad5, y41_lad6, y42_lsame, y43_fd0, y44_fd1, y45_fd2, y46_fd3, y47_fd4, y48_fd5, y49_fd6, y50_data⟩ : Letter), ye) := by subst hFsL6; exact hG
              have j7 : GFsL7.getLet2 os = ((⟨y0_lkind, y1_src, y2_dst, y3_irep, y4_islot, y5_be, y6_br, y7_mkind, y8_mclient, y9_mseq, y10_mkey, y11_mfin, y12_mold, y13_mval, y14_tseq, y15_td0, y16_td1, y17_td2, y18_td3, y19_td4, y20_td5, y21_td6, y22_lstatus, y23_lpe, y24_lpr, y25_lve, y26_lvr, y27_lckind, y28_lcclient, y29_lcseq, y30_lckey, y31_lcfin, y32_lcold, y33_lcval, y34_laseq, y35_lad0, y36_lad1, y37_lad2, y38_lad3, y39_lad4, y40_lad5, y41_lad6, y42_lsame, y43_fd0, y44_fd1, y45_fd2, y46_fd3, y47_fd4, y48_fd5, y49_fd6, y50_data⟩ : Letter), ye) := by subst hFsL7; exact hG
              have j8 : GFsLG.cell ys 0 0 = ((⟨u0, u1, u2, u3, u4, u5, u6, u7, u8, u9, u10, u11, u12, u13, u14, u15, u16, u17, u18, u19, u20⟩ : Cell), ca, cw) := by subst hFsLG; exact hC
              have j9 : GFsLH.cell ys 0 0 = ((⟨u0, u1, u2, u3, u4, u5, u6, u7, u8, u9, u10, u11, u12, u13, u14, u15, u16, u17, u18, u19, u20⟩ : Cell), ca, cw) := by subst hFsLH; exact hC
              have jc : GFsU.intact fu os 8 = true := by subst hFsU hfu; rfl
              have jd : GFsK.runs15 = true := by subst hFsK; rfl
              have je : A.cond true true false = true := by subst hA; rfl
              have jf : A.and true true = true := by subst hA; rfl
              have jg : A.cmp .eql ye ye = true := by subst hA; exact decide_eq_true rfl
              have jh : A.cmp .neq cw cw = false := by subst hA; show (!decide (cw = cw)) = false; rw [decide_eq_true rfl]; rfl
              have ji : A.not true = false := by subst hA; rfl
              have jk : A.cond false true false = false := by subst hA; rfl
              cbv at jf
              cbv at jg
              cbv at jh
              cbv at ji
              cbv at jk
              have rI : ∀ n : Int, A.cmp .eql n n = true := by subst hA; exact fun n => decide_eq_true rfl
              have rS : ∀ n : ByteArray, A.scmp .eql n n = true := by subst hA; exact fun n => decide_eq_true rfl
              have rB : ∀ n : Bool, A.beq n n = true := by subst hA; exact fun n => by cases n <;> rfl
              unfold Ar.cmp at rI
              unfold Ar.scmp at rS
              unfold Ar.beq at rB
              cbv at j4
              cbv at j5
              cbv at j6
              cbv at j7
              cbv at j8
              cbv at j9
              cbv at jc
              cbv at jd
              cbv at je
              with_reducible refine goL (T := fun _ => tabY [] []) (H := fun _ => [kn_light GFsL9, kn_rightL2 GFsR5, kn_within3 GFsQ, kn_roomy GFsU, kn_getLet GFsL6, kn_getLet2 GFsL7, kn_intact GFsU, kn_runs15 GFsK]) (tabY_ok _ _) hH follows_mixed hA hX ?_
              cbv
              repeat' first
                | (simp only [j4, j5, j6, j7, j8, j9, jc, jd, je, jf, jg, jh, ji, jk, rI, rS, rB]; cbv)
                | (refine And.intro ?_ ?_)
                | (refine part (fun h => ?_) (fun h => ?_) <;> try cbv)
                | ((with_reducible refine callB hX hB ?_) <;> cbv)
                | ((with_reducible refine regionL [25, 26] [0, 0, 0, 0, 0, 0, 1, 2, 2, 2, 2, 2, 2, 2, 2, 2, 2, 2] (T := fun _ => tabY [] []) (H := fun _ => [kn_light GFsL9, kn_rightL2 GFsR5, kn_within3 GFsQ, kn_roomy GFsU, kn_getLet GFsL6, kn_getLet2 GFsL7, kn_intact GFsU, kn_runs15 GFsK]) (B := fun _ => [kb_pRead GFsS, kb_rRead GFsS, kb_gCell GFsLG, kb_rCell GFsLH]) (R := fun _ => [kr_pwrong GFsR]) (A := A) (tabY_ok _ _) hH hB hR0 follows_mixed hA hX (by kernel_rfl) (by kernel_rfl) (by kernel_rfl) ?_) <;> cbv)
              all_goals clear hH hB hR0
              all_goals subst hA hX hW hFsR hFsL9 hFsR5 hFsQ hFsU hFsL6 hFsL7 hFsK hFsS hFsLG hFsLH
              all_goals first
                | exact hos
                | exact hys
                | exact hM8
                | exact hbn
                | exact rd0 hys
                | exact hfu
                | exact ret_v rfl rfl
                | exact fun _ => hM8
                | exact fun _ => hos
                | exact fun _ => hfu
                | exact fun _ => trivial
                | exact id
                | (exact fun q => q)
                | (simp [A0]; done)
                | (have hcr := getCell_rd (rd0 hys); rw [hC] at hcr; exact hcr)
                | fail
            all_goals subst hA
            all_goals first
              | exact rfl
              | (show cs.length = mm * 1; rw [hcs, hPb, rowsB_length]; omega)
              | exact Nat.le_refl 1
              | (show mm + 1 ≤ _ ∧ _; exact ⟨by omega, by omega⟩)
              | fail
          all_goals clear hH hB hR0
          all_goals subst hA hFsQ
          all_goals first
            | exact rfl
            | exact hat
            | exact hho
            | exact ⟨by decide, by decide, by decide⟩
            | (show span3 0 (IntKind.wrap .i64 ((mm : Int) - 1)); rw [wrap_i64 (by unfold r64; omega)]; exact ⟨by omega, by omega, by omega⟩)
            | fail
        · skip
          repeat' first
            | (simp only [y3, y4, z0, z1, z2, z3, z4, z5, z6, z7, z8]; cbv)
            | (refine And.intro ?_ ?_)
          rotate_right 1
          · refine pauseL hX (s' := [(0, .d (.slc 1 ys)), (10, .d (.sc (.bool false))), (11, .d (.slc 1 PL))]) (st' := [⟨37, ((.d (.sc (.int .i64 m_lkind))) :: (.d (.sc (.int .i64 m_src))) :: (.d (.sc (.int .i64 m_dst))) :: (.d (.sc (.int .i64 m_irep))) :: (.d (.sc (.int .i64 m_islot))) :: (.d (.sc (.int .i64 m_be))) :: (.d (.sc (.int .i64 m_br))) :: (.d (.sc (.int .i64 m_mkind))) :: (.d (.sc (.int .i64 m_mclient))) :: (.d (.sc (.int .i64 m_mseq))) :: (.d (.sc (.string m_mkey))) :: (.d (.sc (.string m_mfin))) :: (.d (.sc (.string m_mold))) :: (.d (.sc (.string m_mval))) :: (.d (.sc (.int .i64 m_tseq))) :: (.d (.sc (.int .i64 m_td0))) :: (.d (.sc (.int .i64 m_td1))) :: (.d (.sc (.int .i64 m_td2))) :: (.d (.sc (.int .i64 m_td3))) :: (.d (.sc (.int .i64 m_td4))) :: (.d (.sc (.int .i64 m_td5))) :: (.d (.sc (.int .i64 m_td6))) :: (.d (.sc (.int .i64 m_lstatus))) :: (.d (.sc (.int .i64 m_lpe))) :: (.d (.sc (.int .i64 m_lpr))) :: (.d (.sc (.int .i64 m_lve))) :: (.d (.sc (.int .i64 m_lvr))) :: (.d (.sc (.int .i64 m_lckind))) :: (.d (.sc (.int .i64 m_lcclient))) :: (.d (.sc (.int .i64 m_lcseq))) :: (.d (.sc (.string m_lckey))) :: (.d (.sc (.string m_lcfin))) :: (.d (.sc (.string m_lcold))) :: (.d (.sc (.string m_lcval))) :: (.d (.sc (.int .i64 m_laseq))) :: (.d (.sc (.int .i64 m_lad0))) :: (.d (.sc (.int .i64 m_lad1))) :: (.d (.sc (.int .i64 m_lad2))) :: (.d (.sc (.int .i64 m_lad3))) :: (.d (.sc (.int .i64 m_lad4))) :: (.d (.sc (.int .i64 m_lad5))) :: (.d (.sc (.int .i64 m_lad6))) :: (.d (.sc (.bool m_lsame))) :: (.d (.sc (.int .i64 m_fd0))) :: (.d (.sc (.int .i64 m_fd1))) :: (.d (.sc (.int .i64 m_fd2))) :: (.d (.sc (.int .i64 m_fd3))) :: (.d (.sc (.int .i64 m_fd4))) :: (.d (.sc (.int .i64 m_fd5))) :: (.d (.sc (.int .i64 m_fd6))) :: (.d (.sc (.string m_data))) :: []), false, 0, true⟩, ⟨5, [], false, v + 1, false⟩]) (told_freeze2 1 1 PL ⟨5, cs, true, v, true⟩ rfl rfl hcs (by rw [hPb]; exact bytesP_sz pb) rfl ⟨.inl rfl, .inl rfl, .inl (by simp [getS, fzD, hm]), trivial⟩) ?_
            have hos : isB8 PL := ⟨pb, hPb, by omega⟩
            obtain ⟨fu, hfu⟩ : ∃ fu, fu = roomyX PL 8 := ⟨_, rfl⟩
            have hM8 : isM 8 := ⟨8, rfl⟩
            have hbn : (0 : Int) ≤ 0 ∧ 0 ≤ (PL.length : Int) ∧ (PL.length : Int) ≤ (fu.length : Int) := by
              have := roomy_len PL 8
              rw [← hfu] at this
              exact ⟨by omega, by omega, by omega⟩
            obtain ⟨⟨YY, ye⟩, hG⟩ : ∃ q, getLet PL = q := ⟨_, rfl⟩
            obtain ⟨y0_lkind, y1_src, y2_dst, y3_irep, y4_islot, y5_be, y6_br, y7_mkind, y8_mclient, y9_mseq, y10_mkey, y11_mfin, y12_mold, y13_mval, y14_tseq, y15_td0, y16_td1, y17_td2, y18_td3, y19_td4, y20_td5, y21_td6, y22_lstatus, y23_lpe, y24_lpr, y25_lve, y26_lvr, y27_lckind, y28_lcclient, y29_lcseq, y30_lckey, y31_lcfin, y32_lcold, y33_lcval, y34_laseq, y35_lad0, y36_lad1, y37_lad2, y38_lad3, y39_lad4, y40_lad5, y41_lad6, y42_lsame, y43_fd0, y44_fd1, y45_fd2, y46_fd3, y47_fd4, y48_fd5, y49_fd6, y50_data⟩ := YY
            obtain ⟨⟨CC, ca, cw⟩, hC⟩ : ∃ q, getCellX ys 0 0 = q := ⟨_, rfl⟩
            obtain ⟨u0, u1, u2, u3, u4, u5, u6, u7, u8, u9, u10, u11, u12, u13, u14, u15, u16, u17, u18, u19, u20⟩ := CC
            have j4 : GFsU.roomy PL 8 = fu := by subst hFsU; exact hfu.symm
            have j5 : A.sub fu 0 (A.len PL) = PL := by subst hA; show (fu.drop 0).take ((PL.length : Int).toNat - 0) = PL; rw [hfu, show (PL.length : Int).toNat - 0 = PL.length by omega]; exact roomy_take PL 8
            have j6 : GFsL6.getLet PL = ((⟨y0_lkind, y1_src, y2_dst, y3_irep, y4_islot, y5_be, y6_br, y7_mkind, y8_mclient, y9_mseq, y10_mkey, y11_mfin, y12_mold, y13_mval, y14_tseq, y15_td0, y16_td1, y17_td2, y18_td3, y19_td4, y20_td5, y21_td6, y22_lstatus, y23_lpe, y24_lpr, y25_lve, y26_lvr, y27_lckind, y28_lcclient, y29_lcseq, y30_lckey, y31_lcfin, y32_lcold, y33_lcval, y34_laseq, y35_lad0, y36_lad1, y37_lad2, y38_lad3, y39_lad4, y40_lad5, y41_lad6, y42_lsame, y43_fd0, y44_fd1, y45_fd2, y46_fd3, y47_fd4, y48_fd5, y49_fd6, y50_data⟩ : Letter), ye) := by subst hFsL6; exact hG
            have j7 : GFsL7.getLet2 PL = ((⟨y0_lkind, y1_src, y2_dst, y3_irep, y4_islot, y5_be, y6_br, y7_mkind, y8_mclient, y9_mseq, y10_mkey, y11_mfin, y12_mold, y13_mval, y14_tseq, y15_td0, y16_td1, y17_td2, y18_td3, y19_td4, y20_td5, y21_td6, y22_lstatus, y23_lpe, y24_lpr, y25_lve, y26_lvr, y27_lckind, y28_lcclient, y29_lcseq, y30_lckey, y31_lcfin, y32_lcold, y33_lcval, y34_laseq, y35_lad0, y36_lad1, y37_lad2, y38_lad3, y39_lad4, y40_lad5, y41_lad6, y42_lsame, y43_fd0, y44_fd1, y45_fd2, y46_fd3, y47_fd4, y48_fd5, y49_fd6, y50_data⟩ : Letter), ye) := by subst hFsL7; exact hG
            have j8 : GFsLG.cell ys 0 0 = ((⟨u0, u1, u2, u3, u4, u5, u6, u7, u8, u9, u10, u11, u12, u13, u14, u15, u16, u17, u18, u19, u20⟩ : Cell), ca, cw) := by subst hFsLG; exact hC
            have j9 : GFsLH.cell ys 0 0 = ((⟨u0, u1, u2, u3, u4, u5, u6, u7, u8, u9, u10, u11, u12, u13, u14, u15, u16, u17, u18, u19, u20⟩ : Cell), ca, cw) := by subst hFsLH; exact hC
            have jc : GFsU.intact fu PL 8 = true := by subst hFsU hfu; rfl
            have jd : GFsK.runs15 = true := by subst hFsK; rfl
            have je : A.cond true true false = true := by subst hA; rfl
            have jf : A.and true true = true := by subst hA; rfl
            have jg : A.cmp .eql ye ye = true := by subst hA; exact decide_eq_true rfl
            have jh : A.cmp .neq cw cw = false := by subst hA; show (!decide (cw = cw)) = false; rw [decide_eq_true rfl]; rfl
            have ji : A.not true = false := by subst hA; rfl
            have jk : A.cond false true false = false := by subst hA; rfl
            cbv at jf
            cbv at jg
            cbv at jh
            cbv at ji
            cbv at jk
            have rI : ∀ n : Int, A.cmp .eql n n = true := by subst hA; exact fun n => decide_eq_true rfl
            have rS : ∀ n : ByteArray, A.scmp .eql n n = true := by subst hA; exact fun n => decide_eq_true rfl
            have rB : ∀ n : Bool, A.beq n n = true := by subst hA; exact fun n => by cases n <;> rfl
            unfold Ar.cmp at rI
            unfold Ar.scmp at rS
            unfold Ar.beq at rB
            cbv at j4
            cbv at j5
            cbv at j6
            cbv at j7
            cbv at j8
            cbv at j9
            cbv at jc
            cbv at jd
            cbv at je
            with_reducible refine goL (T := fun _ => tabY [] []) (H := fun _ => [kn_light GFsL9, kn_rightL2 GFsR5, kn_within3 GFsQ, kn_roomy GFsU, kn_getLet GFsL6, kn_getLet2 GFsL7, kn_intact GFsU, kn_runs15 GFsK]) (tabY_ok _ _) hH follows_mixed hA hX ?_
            cbv
            repeat' first
              | (simp only [j4, j5, j6, j7, j8, j9, jc, jd, je, jf, jg, jh, ji, jk, rI, rS, rB]; cbv)
              | (refine And.intro ?_ ?_)
              | (refine part (fun h => ?_) (fun h => ?_) <;> try cbv)
              | ((with_reducible refine callB hX hB ?_) <;> cbv)
              | ((with_reducible refine regionL [25, 26] [0, 0, 0, 0, 0, 0, 1, 2, 2, 2, 2, 2, 2, 2, 2, 2, 2, 2] (T := fun _ => tabY [] []) (H := fun _ => [kn_light GFsL9, kn_rightL2 GFsR5, kn_within3 GFsQ, kn_roomy GFsU, kn_getLet GFsL6, kn_getLet2 GFsL7, kn_intact GFsU, kn_runs15 GFsK]) (B := fun _ => [kb_pRead GFsS, kb_rRead GFsS, kb_gCell GFsLG, kb_rCell GFsLH]) (R := fun _ => [kr_pwrong GFsR]) (A := A) (tabY_ok _ _) hH hB hR0 follows_mixed hA hX (by kernel_rfl) (by kernel_rfl) (by kernel_rfl) ?_) <;> cbv)
            all_goals clear hH hB hR0
            all_goals subst hA hX hW hFsR hFsL9 hFsR5 hFsQ hFsU hFsL6 hFsL7 hFsK hFsS hFsLG hFsLH
            all_goals first
              | exact hos
              | exact hys
              | exact hM8
              | exact hbn
              | exact rd0 hys
              | exact hfu
              | exact ret_v rfl rfl
              | exact fun _ => hM8
              | exact fun _ => hos
              | exact fun _ => hfu
              | exact fun _ => trivial
              | exact id
              | (exact fun q => q)
              | (simp [A0]; done)
              | (have hcr := getCell_rd (rd0 hys); rw [hC] at hcr; exact hcr)
              | fail
          all_goals clear hH hB hR0
          all_goals subst hA hFsQ
          all_goals first
            | exact rfl
            | exact hat
            | exact hho
            | exact ⟨by decide, by decide, by decide⟩
            | (show span3 0 (IntKind.wrap .i64 ((mm : Int) - 1)); rw [wrap_i64 (by unfold r64; omega)]; exact ⟨by omega, by omega, by omega⟩)
            | fail
  all_goals first
    | (subst hFsL9; exact hp1)
    | (subst hA; exact fun q => q)
    | (subst hA; exact fun _ => trivial)
    | (subst hA; simp [A0]; done)
    | fail
end Go.Proofs.Ytbhapclaochcnaa
