/- Bytes taken as a number are the number's. No condition. -/
import Derived.Test.YtligainhbdidgaaRd5
namespace Go.Proofs.Ytligainhbdidgaa
open Go.RowKit
set_option linter.all false


def slotC : Operand → Nat
  | .tmp t => t
  | _ => 0
theorem pickL {P : Program} {N : Nat} {X : Cps} (hX : X = X0 P N) {c x y : Operand} {s : SL} {st : Store} {K : DV → Store → Prop} {t : Bool} (hc : getS s (slotC c) = .d (.sc (.bool t))) (hcc : c = .tmp (slotC c)) (hk : K (bif t then evL s x else evL s y) st) : X.op (.pick c x y) s st K := by
  refine opL hX ?_
  have hev : ev (getS s) c = .d (.sc (.bool t)) := by rw [hcc]; exact hc
  show pickD (ev (getS s) c) (ev (getS s) x) (ev (getS s) y) fun d => K d st
  rw [hev]
  unfold pickD
  simp only
  split
  · rename_i p q h1 h2
    have e : (bif t then evL s x else evL s y) = .d (.sc (.bool (bif t then p else q))) := by
      cases t
      · exact h2
      · exact h1
    rw [← e]; exact hk
  · cases t
    · exact ⟨fun h => (by cases h), fun _ => hk⟩
    · exact ⟨fun _ => hk, fun h => (by cases h)⟩
/-- The loop's state: how many sevens were taken off. -/
def SevI (n u size : Int) : Prop := ∃ f m : Nat, u = m ∧ (numB n).length + 1 = size.toNat + (numF (f + 1) m).length ∧ m < 128 ^ (f + 1) ∧ 0 ≤ size ∧ size ≤ 20
theorem isB_sub {xs : List (List PD)} (h : isB xs) (l n : Nat) : isB ((xs.drop l).take n) := by
  obtain ⟨bs, rfl, hb⟩ := h
  refine ⟨(bs.drop l).take n, by rw [bytesP_drop, bytesP_take], ?_⟩
  simp only [List.length_take, List.length_drop]
  omega
theorem sev_size {n u size : Int} (h : SevI n u size) (h8 : ¬ 128 ≤ u) : ((numX [] n).length : Int) = size := by
  obtain ⟨f, v, hu, hlen, hlt, hs0, hs1⟩ := h
  rw [numX_len]
  rw [numF_last f v (by omega)] at hlen
  simp only [List.length_singleton] at hlen
  omega
theorem sev_next {n u size : Int} (h : SevI n u size) (h8 : 128 ≤ u) : SevI n (u.fdiv (2 ^ min (Int.toNat 7) (IntKind.bits .u64))) (size + 1) ∧ (u.fdiv (2 ^ min (Int.toNat 7) (IntKind.bits .u64))).toNat < u.toNat ∧ IntKind.wrap .i64 (size + 1) = size + 1 := by
  obtain ⟨f, v, hu, hlen, hlt, hs0, hs1⟩ := h
  subst hu
  rw [fdiv128]
  match f, hlen, hlt with
  | 0, hlen, hlt => omega
  | f + 1, hlen, hlt =>
    rw [numF_step (f + 1) v (by omega), List.length_cons] at hlen
    have hn := numB_length n
    have hp := numF_pos f (v / 128)
    refine ⟨⟨f, v / 128, rfl, by omega, ?_, by omega, by omega⟩, by omega, wrap_i64 (by unfold r64; omega)⟩
    rw [Nat.pow_succ] at hlt
    exact Nat.div_lt_of_lt_mul (by rw [Nat.mul_comm]; exact hlt)
theorem one_fact {xs : List (List PD)} (h : isRd xs 0 0) (hw : (numR xs 0 0).2.2 = 0) : 0 ≤ (numR xs 0 0).2.1 ∧ (numR xs 0 0).2.1 ≤ xs.length ∧ (xs.drop 0).take (numR xs 0 0).2.1.toNat = numX [] (numR xs 0 0).1 := by
  obtain ⟨bs, hxs, hby, hlx, hb, -⟩ := isRd_len h
  have h2 := (num_rd h).1
  refine ⟨h2.2.1, h2.2.2.1, ?_⟩
  unfold numR numL at hw ⊢
  rw [hby] at hw ⊢
  rw [if_neg (by decide)] at hw ⊢
  cases hs : sev 0 0 (bs.drop (0 : Int).toNat) with
  | short => rw [hs] at hw; cases hw
  | form => rw [hs] at hw; cases hw
  | num u k =>
    have ht := (numB_took hs).1
    simp only
    rw [show ((0 : Int) + (k : Int)).toNat = k by omega, hxs, numX]
    simp only [List.drop_zero, List.nil_append] at ht ⊢
    rw [bytesP_take, ← ht]
    rfl

set_option maxRecDepth 100000 in
set_option maxHeartbeats 8000000 in
theorem v_one (xs : List (List PD)) (n : Int) (hp0 : isB xs) (hp1 : r64 n) : FnV Try.prog 16 [.d (.slc 1 xs), intD n] (boolD true) := by
  obtain ⟨GFsQ, hFsQ⟩ : ∃ F, F = FsQ0 := ⟨_, rfl⟩
  obtain ⟨GFsT, hFsT⟩ : ∃ F, F = FsT0 := ⟨_, rfl⟩
  obtain ⟨GFsP, hFsP⟩ : ∃ F, F = FsP0 := ⟨_, rfl⟩
  obtain ⟨GFsS, hFsS⟩ : ∃ F, F = FsS0 := ⟨_, rfl⟩
  obtain ⟨GFsR, hFsR⟩ : ∃ F, F = FsR0 := ⟨_, rfl⟩
  have hH : SoundK Try.prog [kn_num GFsQ, kn_same GFsQ, kn_runs3 GFsT, kn_zig GFsP] := by subst hFsQ hFsT hFsP hFsS hFsR; exact orK_ok ok_num (orK_ok ok_same (orK_ok ok_runs3 (orK_ok ok_zig noK_ok)))
  have hB : SoundB Try.prog [kb_pRead GFsS, kb_pNum GFsR, kb_pwrong GFsR, kb_pat GFsR] := by subst hFsQ hFsT hFsP hFsS hFsR; exact orB_ok okb_pRead (orB_ok okb_pNum (orB_ok okb_pwrong (orB_ok okb_pat noB_ok)))
  refine FnD_cbv (T := fun _ => tabY [] []) (H := fun _ => [kn_num GFsQ, kn_same GFsQ, kn_runs3 GFsT, kn_zig GFsP]) (tabY_ok _ _) hH follows_mixed Try.func16 rfl Try.ntmps16 (by simp) fun A X W hA hX hW => ?_
  cbv
  refine callB hX hB ?_
  cbv
  refine And.intro ?_ ?_
  · subst hFsS; exact hp0
  refine callB hX hB ?_
  cbv
  refine And.intro ?_ (And.intro ?_ ?_)
  · subst hFsR; exact rd0 hp0
  · subst hFsP; exact hp1
  have hz := zig_range hp1
  obtain ⟨z, ez⟩ : ∃ z, z = zig n := ⟨_, rfl⟩
  have ez2 : GFsP.zig n = z := by subst hFsP; exact ez.symm
  obtain ⟨m, a, w, em⟩ : ∃ m a w, numR xs 0 0 = (m, a, w) := ⟨_, _, _, rfl⟩
  have em2 : GFsR.num xs 0 0 = (m, a, w) := by subst hFsR; exact em
  cbv at ez2 em2
  simp only [ez2, em2]
  refine loopL (T := fun _ => tabY [] []) (H := fun _ => [kn_num GFsQ, kn_same GFsQ, kn_runs3 GFsT, kn_zig GFsP]) (tabY_ok _ _) hH follows_mixed hA hX (fun x : Int × Int => SevI n x.1 x.2)
    (fun x => [(0, .d (.slc 1 xs)), (1, .d (.sc (.int .i64 n))), (5, .ref 0 0 0), (6, .d (.sc (.int .i64 m))), (8, .d (.sc (.int .u64 x.1))), (7, .d (.sc (.int .i64 x.2)))]) (fun _ => [rdB 111 xs a w])
    (fun x => x.1.toNat) (z, 1) ?_ ?_ ?_
  · exact ⟨9, z.toNat, by omega, by rw [numB, ez]; simp; omega, by omega, by simp, by simp⟩
  · exact told_less (by simp [toldP, getS])
  rintro R ⟨u, size⟩ hR hinv
  cbv
  repeat' first
    | (refine part (fun h => ?_) (fun h => ?_) <;> try cbv)
    | (refine And.intro ?_ ?_)
    | (with_reducible refine callB hX hB ?_) <;> cbv
    | ((with_reducible refine pickL hX (t := true) rfl rfl ?_) <;> cbv)
    | ((with_reducible refine pickL hX (t := false) rfl rfl ?_) <;> cbv)
  all_goals try subst hR
  all_goals subst hA hX hW hFsQ hFsT hFsP hFsS hFsR
  all_goals clear hH hB
  all_goals simp only [A0, FsQ0, FsT0, FsP0, FsS0, FsR0, decide_eq_true_eq, decide_eq_false_iff_not, Bool.not_eq_true', Bool.not_eq_false'] at *
  all_goals replace hinv : SevI n u size := hinv
  all_goals have hrd := (num_rd (rd0 hp0)).1
  all_goals have hm64 := (num_rd (rd0 hp0)).2.2
  all_goals have hof := one_fact (rd0 hp0)
  all_goals rw [em] at hrd hm64 hof
  all_goals have hsz := fun h8 => sev_size hinv h8
  all_goals first
    | assumption
    | exact isB_lit [] _ rfl (by decide)
    | exact isB_num _
    | exact isB_sub hp0 _ _
    | exact ⟨by decide, hrd.2.1, hrd.2.2.1⟩
    | decide
    | exact ret_v rfl rfl
    | (have hq := sev_next hinv (by assumption)
       refine ⟨(u.fdiv (2 ^ min (Int.toNat 7) (IntKind.bits .u64)), size + 1), hq.1, hq.2.1, told_less ?_⟩
       simp [toldP, getS, hq.2.2])
    | (exfalso
       have hz8 := hsz (by assumption)
       have h0 := hof (by assumption)
       have hss : sameX (numX [] m) ((xs.drop (0 : Int).toNat).take (a.toNat - (0 : Int).toNat)) = true := sameX_of h0.2.2.symm
       clear em hrd hm64 hof hsz hinv h0 hz ez
       simp_all
       done)
    | (exfalso
       have hz8 := hsz (by assumption)
       clear em hrd hm64 hof hsz hinv hz ez
       simp_all
       done)
    | skip
  all_goals trace_state
  all_goals fail
end Go.Proofs.Ytligainhbdidgaa
