/- Commands that do not clash, in either order: the law over plain data. No condition but sizes. -/
import Derived.Test.YtijknhdaipnjaaaSp3
import Derived.Test.YtijknhdaipnjaaaSt9
namespace Go.Proofs.Ytijknhdaipnjaaa
open Go.RowKit
set_option linter.all false
set_option maxHeartbeats 4000000
theorem repliesX_refl (r : Reply) : repliesX r r = true := repliesX_true rfl
theorem apart_ok {xs : List (List PD)} (h : isC xs) (a b : Cmd) : ∃ ps sq cs rr, playX Z49 (shortX xs) = (.d (.slc 3 (pairsX ps)) :: .d (.sc (.int .i64 sq)) :: cs, rr) ∧ isP (pairsX ps) ∧ isSt (.d (.slc 3 (pairsX ps)) :: .d (.sc (.int .i64 sq)) :: cs) ∧
    ∃ x y p0 p1 q0 q1, playX (.d (.slc 3 (pairsX ps)) :: .d (.sc (.int .i64 sq)) :: cs) (cmdsX [a, b]) = (x, repsX [p0, p1]) ∧ playX (.d (.slc 3 (pairsX ps)) :: .d (.sc (.int .i64 sq)) :: cs) (cmdsX [b, a]) = (y, repsX [q0, q1]) ∧ isSt x ∧ isSt y ∧
      (isP p0.pairs ∧ isP p1.pairs ∧ isP q0.pairs ∧ isP q1.pairs) ∧
      (rightC a = true → rightC b = true → ¬ a.kind = 0 → ¬ b.kind = 0 → clashC a b = false → ps.length ≤ 30 → x = y ∧ p0 = q1 ∧ p1 = q0) := by
  obtain ⟨ps, os, rs, e, hok⟩ := play0 h
  obtain ⟨cs, ec⟩ := cells_head hok
  refine ⟨ps, (ownAt os 1).seq, cs, repsX rs, by rw [e, ec], hok.1.isP, by rw [← ec]; exact hok.is, ?_⟩
  rw [← ec]
  refine ⟨_, _, _, _, _, _, play_two hok a b, play_two hok b a, (hok.is.apply a).apply b, (hok.is.apply b).apply a, ⟨hok.is.rep a, (hok.is.apply a).rep b, hok.is.rep b, (hok.is.apply b).rep a⟩, fun ha hb ka kb hc hl => ?_⟩
  have za : ¬ a = .zero := fun e => ka (by rw [e]; rfl)
  have zb : ¬ b = .zero := fun e => kb (by rw [e]; rfl)
  have hc2 : clashC b a = false := by
    rw [← hc]
    simp only [clashC, meets_comm (keysC b).1 (keysC a).1, Bool.or_comm (writesC b) (writesC a), Bool.and_comm (keysC b).2 (keysC a).2]
    congr 2
    exact decide_eq_decide.2 ⟨Eq.symm, Eq.symm⟩
  obtain ⟨s1, s2, x, ra, rb, e1, e2, e3, e4⟩ := apply_apart hok (by decide) (by decide) hl ha za hb zb hc hc2
  rw [e1, e3]
  simp only
  rw [e2, e4]
  exact ⟨rfl, rfl, rfl⟩

structure FsSB where
  isC : List (List PD) → Prop
def FsSB0 : FsSB where
  isC := isC
set_option maxRecDepth 100000 in
theorem v_apart (xs : List (List PD)) (a : Cmd) (b : Cmd) (hp0 : FsSB0.isC xs) (hp1 : a.key.size ≤ 1048576) (hp2 : b.key.size ≤ 1048576) : FnV Try.prog 5 [.d (.slc 7 xs), Cmd.D a, Cmd.D b] (boolD (((fun (_ : List (List PD)) (_ _ : Cmd) => true) xs a b))) := by
  obtain ⟨a_kind, a_client, a_seq, a_key, a_fin, a_old, a_val⟩ := a
  obtain ⟨b_kind, b_client, b_seq, b_key, b_fin, b_old, b_val⟩ := b
  obtain ⟨ps, sq, cs, rr, ep, hps, hst, x, y, p0, p1, q0, q1, ea, eb, hsx, hsy, hrp, hf⟩ := apart_ok hp0 ⟨a_kind, a_client, a_seq, a_key, a_fin, a_old, a_val⟩ ⟨b_kind, b_client, b_seq, b_key, b_fin, b_old, b_val⟩
  obtain ⟨x0, hx0⟩ : ∃ x0, x0 = pairsX ps := ⟨_, rfl⟩
  have hx0l : x0.length = ps.length := by rw [hx0, pairsX_length]
  rw [← hx0] at ep hps hst ea eb
  have hsh := hp0.short
  have hwa : a_key.size ≤ 4194304 := Nat.le_trans hp1 (by decide)
  have hwb : b_key.size ≤ 4194304 := Nat.le_trans hp2 (by decide)
  have hl0 := hst.len
  have hlx := hsx.len
  have hly := hsy.len
  obtain ⟨p01, p02, p03, p04, p05⟩ := p0
  obtain ⟨p11, p12, p13, p14, p15⟩ := p1
  obtain ⟨q01, q02, q03, q04, q05⟩ := q0
  obtain ⟨q11, q12, q13, q14, q15⟩ := q1
  obtain ⟨w0, hw0⟩ : ∃ w0, w0 = repsX [⟨p01, p02, p03, p04, p05⟩, ⟨p11, p12, p13, p14, p15⟩] := ⟨_, rfl⟩
  obtain ⟨w1, hw1⟩ : ∃ w1, w1 = repsX [⟨q01, q02, q03, q04, q05⟩, ⟨q11, q12, q13, q14, q15⟩] := ⟨_, rfl⟩
  rw [← hw0] at ea
  rw [← hw1] at eb

  obtain ⟨GFsSh, hGFsSh⟩ : ∃ F, F = FsSh0 := ⟨_, rfl⟩
  obtain ⟨GFsS6, hGFsS6⟩ : ∃ F, F = FsS60 := ⟨_, rfl⟩
  obtain ⟨GFs5, hGFs5⟩ : ∃ F, F = Fs50 := ⟨_, rfl⟩
  obtain ⟨GFsS4, hGFsS4⟩ : ∃ F, F = FsS40 := ⟨_, rfl⟩
  obtain ⟨GFsOw, hGFsOw⟩ : ∃ F, F = FsOw0 := ⟨_, rfl⟩
  obtain ⟨GFsS7, hGFsS7⟩ : ∃ F, F = FsS70 := ⟨_, rfl⟩
  have hH : SoundK Try.prog [kn_short GFsSh, kn_play GFsS6, kn_cright GFs5, kn_cclash GFs5, kn_sameSt GFsS4, kn_replies GFsOw, kn_runs GFsS7] := by subst hGFsSh hGFsS6 hGFs5 hGFsS4 hGFsOw hGFsS7; exact orK_ok ok_short (orK_ok ok_play (orK_ok ok_cright (orK_ok ok_cclash (orK_ok ok_sameSt (orK_ok ok_replies (orK_ok ok_runs noK_ok))))))
  refine FnD_cbv (T := fun _ => tabY [1018, 1007, 1009, 1011, 1056, 1064, 81, 84, 90, 93, 5004] [2, 4, 5, 6]) (H := fun _ => [kn_short GFsSh, kn_play GFsS6, kn_cright GFs5, kn_cclash GFs5, kn_sameSt GFsS4, kn_replies GFsOw, kn_runs GFsS7]) (tabY_ok _ _) hH follows_mixed Try.func5 rfl Try.ntmps5 (by simp) fun A X W hA hX hW => ?_
  cbv
  have e1 : GFsS6.play Z49 (GFsSh.short xs) = ((.d (.slc 3 x0) :: .d (.sc (.int .i64 sq)) :: cs), rr) := by subst hGFsS6 hGFsSh; exact ep
  have e2 : GFsS6.play (.d (.slc 3 x0) :: .d (.sc (.int .i64 sq)) :: cs) [[.sc (.int .i64 a_kind), .sc (.int .i64 a_client), .sc (.int .i64 a_seq), .sc (.string a_key), .sc (.string a_fin), .sc (.string a_old), .sc (.string a_val)], [.sc (.int .i64 b_kind), .sc (.int .i64 b_client), .sc (.int .i64 b_seq), .sc (.string b_key), .sc (.string b_fin), .sc (.string b_old), .sc (.string b_val)]] = (x, w0) := by subst hGFsS6; exact ea
  have e3 : GFsS6.play (.d (.slc 3 x0) :: .d (.sc (.int .i64 sq)) :: cs) [[.sc (.int .i64 b_kind), .sc (.int .i64 b_client), .sc (.int .i64 b_seq), .sc (.string b_key), .sc (.string b_fin), .sc (.string b_old), .sc (.string b_val)], [.sc (.int .i64 a_kind), .sc (.int .i64 a_client), .sc (.int .i64 a_seq), .sc (.string a_key), .sc (.string a_fin), .sc (.string a_old), .sc (.string a_val)]] = (y, w1) := by subst hGFsS6; exact eb
  cbv at e1
  cbv at e2
  cbv at e3
  simp only [e1]
  repeat' first
    | (refine part (fun h => ?_) (fun h => ?_) <;> try cbv)
    | (simp only [e2, e3])
    | (refine And.intro ?_ ?_)
    | ((with_reducible refine goL (c := .region 2 _ _) (T := fun _ => tabY [1018, 1007, 1009, 1011, 1056, 1064, 81, 84, 90, 93, 5004] []) (H := fun _ => [kn_short GFsSh, kn_play GFsS6, kn_cright GFs5, kn_cclash GFs5, kn_sameSt GFsS4, kn_replies GFsOw, kn_runs GFsS7]) (tabY_ok _ _) hH follows_mixed hA hX ?_) <;> cbv)
    | ((with_reducible refine regionF (id := 4) (T := fun _ => tabY [1018, 1007, 1009, 1011, 1056, 1064, 81, 84, 90, 93, 5004] []) (H := fun _ => [kn_short GFsSh, kn_play GFsS6, kn_cright GFs5, kn_cclash GFs5, kn_sameSt GFsS4, kn_replies GFsOw, kn_runs GFsS7]) (tabY_ok _ _) hH hA hX ?_) <;> cbv)
    | ((with_reducible refine regionF (id := 5) (T := fun _ => tabY [1018, 1007, 1009, 1011, 1056, 1064, 81, 84, 90, 93, 5004] []) (H := fun _ => [kn_short GFsSh, kn_play GFsS6, kn_cright GFs5, kn_cclash GFs5, kn_sameSt GFsS4, kn_replies GFsOw, kn_runs GFsS7]) (tabY_ok _ _) hH hA hX ?_) <;> cbv)
    | ((refine pauseL (c := .region 6 _ _) hX (s' := [(9, .ref 3 0 0), (11, .ref 4 0 0), (10, .d (.slc 5 w0)), (12, .d (.slc 5 w1))]) (st' := [⟨35, [.d (.sc (.int .i64 a_kind)), .d (.sc (.int .i64 a_client)), .d (.sc (.int .i64 a_seq)), .d (.sc (.string a_key)), .d (.sc (.string a_fin)), .d (.sc (.string a_old)), .d (.sc (.string a_val))], false, 0, true⟩, ⟨35, [.d (.sc (.int .i64 b_kind)), .d (.sc (.int .i64 b_client)), .d (.sc (.int .i64 b_seq)), .d (.sc (.string b_key)), .d (.sc (.string b_fin)), .d (.sc (.string b_old)), .d (.sc (.string b_val))], false, 0, true⟩, ⟨30, (.d (.slc 3 x0) :: .d (.sc (.int .i64 sq)) :: cs), false, 0, true⟩, ⟨30, x, false, 0, true⟩, ⟨30, y, false, 0, true⟩]) (told_less ⟨.inl rfl, .inl rfl, .inl rfl, .inl rfl, trivial⟩) ?_)
       (with_reducible refine goL (c := .region 6 _ _) (T := fun _ => tabY [1018, 1007, 1009, 1011, 1056, 1064, 81, 84, 90, 93, 5004] []) (H := fun _ => [kn_short GFsSh, kn_play GFsS6, kn_cright GFs5, kn_cclash GFs5, kn_sameSt GFsS4, kn_replies GFsOw, kn_runs GFsS7]) (tabY_ok _ _) hH follows_mixed hA hX ?_) <;> cbv)
  all_goals have r00 : w0.getD (0 : Int).toNat [] = [.sc (.int .i64 p01), .sc (.bool p02), .sc (.string p03), .sc (.int .i64 p04), .slc 3 p05] := by rw [hw0]; rfl
  all_goals have r01 : w0.getD (1 : Int).toNat [] = [.sc (.int .i64 p11), .sc (.bool p12), .sc (.string p13), .sc (.int .i64 p14), .slc 3 p15] := by rw [hw0]; rfl
  all_goals have r10 : w1.getD (0 : Int).toNat [] = Reply.row ⟨q01, q02, q03, q04, q05⟩ := by rw [hw1]; rfl
  all_goals have r11 : w1.getD (1 : Int).toNat [] = Reply.row ⟨q11, q12, q13, q14, q15⟩ := by rw [hw1]; rfl
  all_goals have l0 : w0.length = 2 := by rw [hw0]; rfl
  all_goals have l1 : w1.length = 2 := by rw [hw1]; rfl
  all_goals subst hA hX hW hGFsSh hGFsS6 hGFs5 hGFsS4 hGFsOw hGFsS7
  all_goals clear hH
  all_goals first
    | exact rfl
    | (show Region.lexB _ _ = true; kernel_rfl)
    | (show turnsB _ = true; kernel_rfl)
    | exact hp0
    | exact hsh
    | exact z49
    | exact hst
    | exact hsx
    | exact hsy
    | (show List.length _ = 49 * 1; exact hl0)
    | (show List.length _ = 49 * 1; exact hlx)
    | (show List.length _ = 49 * 1; exact hly)
    | (exact ⟨[⟨a_kind, a_client, a_seq, a_key, a_fin, a_old, a_val⟩, ⟨b_kind, b_client, b_seq, b_key, b_fin, b_old, b_val⟩], rfl, Nat.le_of_ble_eq_true rfl⟩)
    | (exact ⟨[⟨b_kind, b_client, b_seq, b_key, b_fin, b_old, b_val⟩, ⟨a_kind, a_client, a_seq, a_key, a_fin, a_old, a_val⟩], rfl, Nat.le_of_ble_eq_true rfl⟩)
    | (intro hq; exact hq)
    | (intro hq; simpa [A0] using hq)
    | (intro _; first | exact trivial | exact rfl | exact hwa | exact hwb)
    | (intro _
       simp only [A0, FsOw0, r00, r01, r10, r11, Reply.row, List.map_cons, List.map_nil, Nat.zero_add, List.getElem?_cons_zero, List.getElem?_cons_succ, l0, l1]
       first
         | exact hrp.1
         | exact hrp.2.1
         | exact hrp.2.2.1
         | exact hrp.2.2.2
         | decide
         | (simp; done))
    | (refine ret_v ?_ rfl; rfl)
    | (have h9 := h
       simp [A0, Fs50] at h9
       obtain ⟨⟨⟨⟨⟨h91, h92⟩, h93⟩, h94⟩, h95⟩, h96⟩ := h9
       obtain ⟨exy, e01, e10⟩ := hf h91 h92 h93 h94 h95 (by omega)
       rw [← e01] at r11
       rw [← e10] at r10
       clear e01 e10
       subst exy
       refine ret_v (congrArg boolD ?_) rfl
       simp only [A0, nc, FsS40, FsOw0, FsS70, r00, r01, r10, r11, Reply.row, l0, l1, List.map_cons, List.map_nil, Nat.zero_add, List.getElem?_cons_zero, List.getElem?_cons_succ]
       simp [sameSt_refl, repliesX_refl]
       done)
    | fail
end Go.Proofs.Ytijknhdaipnjaaa
