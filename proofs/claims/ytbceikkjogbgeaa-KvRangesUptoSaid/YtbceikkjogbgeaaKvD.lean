/- What a range tells: the first pairs that the span has. No condition. -/
import Derived.Test.YtbceikkjogbgeaaKvC
namespace Go.Proofs.Ytbceikkjogbgeaa
open Go.RowKit
set_option linter.all false
set_option maxHeartbeats 4000000
theorem rangeL_filter (s : Span) : ∀ (ps acc : List Pair), acc.length ≤ 8 → rangeL s ps acc = ((acc ++ ps.filter fun p => hasS s p.key).take 8, decide (8 < (acc ++ ps.filter fun p => hasS s p.key).length))
  | [], acc, h => by
      simp only [rangeL, List.filter_nil, List.append_nil, Prod.mk.injEq]
      exact ⟨(List.take_of_length_le h).symm, by simp; omega⟩
  | p :: ps, acc, h => by
      unfold rangeL
      by_cases hp : hasS s p.key = true
      · rw [if_pos hp, List.filter_cons_of_pos (by simpa using hp)]
        split
        · rename_i h8
          rw [List.take_append_of_le_length (by omega), List.take_of_length_le (by omega)]
          simp [h8]
        · rw [rangeL_filter s ps (acc ++ [p]) (by simp; omega)]
          simp
      · rw [if_neg hp, List.filter_cons_of_neg (by simpa using hp), rangeL_filter s ps acc h]
structure Ask where
  kind : Int
  key : ByteArray
  value : ByteArray
  span : Span
def Ask.row (a : Ask) : List PD := [.sc (.int .i64 a.kind), .sc (.string a.key), .sc (.string a.value), .sc (.string a.span.lo), .sc (.string a.span.hi)]
def asksX (qs : List Ask) : List (List PD) := qs.map Ask.row
def isA (xs : List (List PD)) : Prop := ∃ qs, xs = asksX qs
theorem isA.row {xs : List (List PD)} (h : isA xs) {i : Int} (h0 : 0 ≤ i) (h1 : i < xs.length) : ∃ a : Ask, xs.getD i.toNat [] = a.row := by
  obtain ⟨qs, rfl⟩ := h
  have hl : i.toNat < qs.length := by simp [asksX] at h1; omega
  exact ⟨qs[i.toNat], by simp [asksX, List.getD_eq_getElem?_getD, hl]⟩
/-- How many of the first pairs a span has. -/
def cntS (s : Span) (ps : List Pair) (i : Nat) : Nat := ((ps.take i).filter fun p => hasS s p.key).length
theorem cntS_succ {s : Span} {ps : List Pair} {i : Nat} (h : i < ps.length) : cntS s ps (i + 1) = if hasS s (ps[i]).key = true then cntS s ps i + 1 else cntS s ps i := by
  unfold cntS
  rw [List.take_succ_eq_append_getElem h, List.filter_append]
  split <;> rename_i hp
  · rw [List.filter_cons_of_pos (by simpa using hp)]; simp
  · rw [List.filter_cons_of_neg (by simpa using hp)]; simp
theorem cntS_get {s : Span} {ps : List Pair} {i : Nat} (h : i < ps.length) (hp : hasS s (ps[i]).key = true) : (ps.filter fun p => hasS s p.key)[cntS s ps i]? = some ps[i] := by
  have hf : (ps.filter fun p => hasS s p.key) = ((ps.take i).filter fun p => hasS s p.key) ++ ps[i] :: ((ps.drop (i + 1)).filter fun p => hasS s p.key) := by
    have e : ps.take i ++ ps[i] :: ps.drop (i + 1) = ps := by rw [← List.drop_eq_getElem_cons h, List.take_append_drop]
    have e2 : (ps[i] :: ps.drop (i + 1)).filter (fun p => hasS s p.key) = ps[i] :: (ps.drop (i + 1)).filter (fun p => hasS s p.key) := List.filter_cons_of_pos (by simpa using hp)
    rw [← e2, ← List.filter_append, e]
  rw [hf]
  unfold cntS
  rw [List.getElem?_append_right (Nat.le_refl _), Nat.sub_self]
  rfl
theorem cntS_all (s : Span) (ps : List Pair) : cntS s ps ps.length = (ps.filter fun p => hasS s p.key).length := by simp [cntS]

theorem ranges_end (s : Span) (ps : List Pair) : ((rangeL s ps []).1.length ≤ 8 ∧ (rangeL s ps []).1.length ≤ cntS s ps ps.length) ∧ (rangeL s ps []).2 = decide ((rangeL s ps []).1.length < cntS s ps ps.length) ∧ ((rangeL s ps []).2 = true → (rangeL s ps []).1.length = 8) := by
  rw [rangeL_filter s ps [] (by simp), cntS_all]
  simp only [List.nil_append, List.length_take, decide_eq_true_eq]
  refine ⟨⟨by omega, by omega⟩, ?_, fun h => by omega⟩
  rw [decide_eq_decide]
  omega
theorem ranges_at {s : Span} {ps : List Pair} {i : Nat} (h : i < ps.length) (hp : hasS s (ps[i]).key = true) :
    (cntS s ps i < (rangeL s ps []).1.length → (rangeL s ps []).1[cntS s ps i]? = some ps[i]) ∧ ((rangeL s ps []).1.length ≤ cntS s ps i → (rangeL s ps []).2 = true) := by
  have hg := cntS_get h hp
  have hl := (List.getElem?_eq_some_iff.1 hg).1
  rw [rangeL_filter s ps [] (by simp)]
  simp only [List.nil_append, List.length_take, decide_eq_true_eq]
  refine ⟨fun h1 => ?_, fun h1 => by omega⟩
  rw [List.getElem?_take, if_pos (by omega)]
  exact hg

structure FsD where
  ranges : List (List PD) → Span → Bool
  isA : List (List PD) → Prop
def FsD0 : FsD where
  ranges := fun _ _ => true
  isA := isA
set_option maxRecDepth 100000 in
theorem v_ranges (xs : List (List PD)) (s : Span) (hp0 : FsD0.isA xs) : FnV Try.prog 5 [.d (.slc 5 xs), Span.D s] (boolD (((fun (_ : List (List PD)) (_ : Span) => true) xs s))) := by
  obtain ⟨s_lo, s_hi⟩ := s
  obtain ⟨GFsH, hGFsH⟩ : ∃ F, F = FsH0 := ⟨_, rfl⟩
  obtain ⟨GFsR, hGFsR⟩ : ∃ F, F = FsR0 := ⟨_, rfl⟩
  obtain ⟨GFsS, hGFsS⟩ : ∃ F, F = FsS0 := ⟨_, rfl⟩
  obtain ⟨GFsU, hGFsU⟩ : ∃ F, F = FsU0 := ⟨_, rfl⟩
  have hH : SoundK Try.prog [kn_put GFsH, kn_range GFsR, kn_has GFsS, kn_runs GFsU] := by subst hGFsH hGFsR hGFsS hGFsU; exact orK_ok ok_put (orK_ok ok_range (orK_ok ok_has (orK_ok ok_runs noK_ok)))
  refine FnD_cbv (T := fun _ => tabY [25, 26, 32, 33, 41, 42, 51, 52, 56, 57, 80, 81, 92, 96] []) (H := fun _ => [kn_put GFsH, kn_range GFsR, kn_has GFsS, kn_runs GFsU]) (tabY_ok _ _) hH follows_mixed Try.func5 rfl Try.ntmps5 (by simp) fun A X W hA hX hW => ?_
  cbv
  refine loopL (T := fun _ => tabY [25, 26, 32, 33, 41, 42, 51, 52, 56, 57, 80, 81, 92, 96] []) (H := fun _ => [kn_put GFsH, kn_range GFsR, kn_has GFsS, kn_runs GFsU]) (tabY_ok _ _) hH follows_mixed hA hX (fun x : Int × List (List PD) => (0 ≤ x.1 ∧ x.1 ≤ 40) ∧ isP x.2)
    (fun x => [(0, .d (.slc 5 xs)), (3, .ref 0 0 0), (5, .d (.slc 3 x.2)), (6, .d (.sc (.int .i64 x.1)))]) (fun x => [⟨35, [.d (.sc (.string s_lo)), .d (.sc (.string s_hi))], false, 0, true⟩])
    (fun x => 40 - x.1.toNat) (0, []) ?_ ?_ ?_
  · exact ⟨⟨by decide, by decide⟩, isP.nil⟩
  · refine told_up ?_
    simp [toldUP, UpD, getS, intD, boolD]
  rintro R ⟨i, m⟩ hR ⟨hi, hm⟩
  replace hi : 0 ≤ i ∧ i ≤ 40 := hi
  replace hm : isP m := hm
  cbv
  repeat' first
    | (refine part (fun h => ?_) (fun h => ?_) <;> try cbv)
    | (refine And.intro ?_ ?_)

  all_goals first
    | (subst hA hX hW hR hGFsH hGFsR hGFsS hGFsU
       clear hH
       simp only [A0, nc, FsH0, FsR0, FsS0, FsU0] at *
       first
         | (show Region.lexB _ _ = true; kernel_rfl)
         | (show turnsB _ = true; kernel_rfl)
         | (intros; first | assumption | trivial | (simp_all; done))
         | (have hlt : i < (xs.length : Int) := by simp_all
            obtain ⟨a, ha⟩ := hp0.row hi.1 hlt
            simp only [ha, Ask.row] at *
            first
              | omega
              | (simp; done)
              | (intros; first | assumption | trivial | (simp_all; done))))
    | skip
  all_goals try
    (have hR2 := hR
     subst hA hX hW hR hGFsH hGFsR hGFsS hGFsU
     clear hH
     simp only [A0, nc, FsH0, FsR0, FsS0, FsU0] at *
     have hlt : i < 40 := by simp_all
     have ei : IntKind.wrap .i64 (i + 1) = i + 1 := wrap_i64 (by unfold r64; omega)
     first
       | (refine ⟨(i + 1, m), ⟨⟨by show (0 : Int) ≤ i + 1; omega, by show i + 1 ≤ 40; omega⟩, hm⟩, by show 40 - (i + 1).toNat < 40 - i.toNat; omega, told_less ?_⟩
          simp [toldP, getS, ei]
          done)
       | (obtain ⟨m2, hm2, hp2⟩ : ∃ m2, m2 = (putX m _ _).1 ∧ isP m2 := ⟨_, rfl, hm.put _ _⟩
          refine ⟨(i + 1, m2), ⟨⟨by show (0 : Int) ≤ i + 1; omega, by show i + 1 ≤ 40; omega⟩, hp2⟩, by show 40 - (i + 1).toNat < 40 - i.toNat; omega, told_less ?_⟩
          exact ⟨.inl rfl, .inl rfl, .inl (congrArg (fun l => DV.d (.slc 3 l)) hm2), .inl (congrArg (fun n => DV.d (.sc (.int .i64 n))) ei.symm), trivial⟩))
  obtain ⟨ps, hps, hl⟩ := hm
  have hlen : m.length = ps.length := by rw [hps]; exact pairsX_length ps
  obtain ⟨⟨r, more⟩, hr⟩ : ∃ p, p = GFsR.range m ⟨s_lo, s_hi⟩ := ⟨_, rfl⟩
  cbv at hr
  simp only [← hr]
  have hrx : (r, more) = rangeX m ⟨s_lo, s_hi⟩ := by subst hGFsR; exact hr
  obtain ⟨S, hS⟩ : ∃ S : Span, S = ⟨s_lo, s_hi⟩ := ⟨_, rfl⟩
  obtain ⟨rs, hrs⟩ : ∃ rs, rs = (rangeL S ps []).1 := ⟨_, rfl⟩
  have hr1 : r = pairsX rs := by
    rw [hrs, hS]
    have := congrArg Prod.fst hrx
    unfold rangeX at this
    rw [hps, pairsOf_X] at this
    exact this
  have hr2 : more = (rangeL S ps []).2 := by
    rw [hS]
    have := congrArg Prod.snd hrx
    unfold rangeX at this
    rw [hps, pairsOf_X] at this
    exact this
  have hrl : r.length = rs.length := by rw [hr1]; exact pairsX_length rs
  have hend := ranges_end S ps
  have hat := @ranges_at S ps
  have hsuc := @cntS_succ S ps
  rw [← hrs, ← hr2] at hend hat
  have hce : ∀ n : Nat, n = ps.length → cntS S ps n = cntS S ps ps.length := fun n h => by rw [h]
  clear hrx hrs hr2
  refine loopL (T := fun _ => tabY [25, 26, 32, 33, 41, 42, 51, 52, 56, 57, 80, 81, 92, 96] []) (H := fun _ => [kn_put GFsH, kn_range GFsR, kn_has GFsS, kn_runs GFsU]) (tabY_ok _ _) hH follows_mixed hA hX (fun x : Int × Int => (0 ≤ x.1 ∧ x.1 ≤ ps.length) ∧ x.2 = cntS S ps x.1.toNat)
    (fun x => [(3, .ref 0 0 0), (5, .d (.slc 3 m)), (9, .d (.slc 3 r)), (10, .d (.sc (.bool more))), (11, .d (.sc (.int .i64 x.2))), (12, .d (.sc (.int .i64 x.1)))]) (fun x => [⟨35, [.d (.sc (.string s_lo)), .d (.sc (.string s_hi))], false, 0, true⟩])
    (fun x => (ps.length : Int).toNat - x.1.toNat) (0, 0) ?_ ?_ ?_
  · exact ⟨⟨by decide, by show (0 : Int) ≤ (ps.length : Int); omega⟩, rfl⟩
  · exact told_less (by simp [toldP, getS])
  rintro R ⟨j, k⟩ hR ⟨hj, hk⟩
  replace hj : 0 ≤ j ∧ j ≤ (ps.length : Int) := hj
  replace hk : k = (cntS S ps j.toNat : Int) := hk
  cbv
  repeat' first
    | (refine part (fun h => ?_) (fun h => ?_) <;> try cbv)
    | (refine And.intro ?_ ?_)

  all_goals first
    | (subst hS hA hX hW hR hGFsH hGFsR hGFsS hGFsU
       clear hH
       simp only [A0, nc, FsH0, FsR0, FsS0, FsU0] at *
       first
         | (show Region.lexB _ _ = true; kernel_rfl)
         | (show turnsB _ = true; kernel_rfl)
         | (intros; first | assumption | trivial | (simp_all; done))
         | (have hlt : j < (ps.length : Int) := by simp_all
            have hrow := prow hps hj.1 hlt
            have hat := hat (i := j.toNat) (by omega)
            have hsuc := hsuc (i := j.toNat) (by omega)
            generalize ps[j.toNat]'(by omega) = p at *
            simp only [hrow, Pair.row, List.drop_zero, List.map_cons, List.map_nil, List.getElem?_cons_zero] at *
            first
              | omega
              | (simp; done)
              | (intros; first | assumption | trivial | (simp_all; done))
              | (by_cases hkr : k < (rs.length : Int)
                 · have hrow2 := prow hr1 (i := k) (by omega) hkr
                   generalize rs[k.toNat]'(by omega) = q at *
                   simp only [hrow2, Pair.row, List.drop_zero, List.map_cons, List.map_nil, List.getElem?_cons_zero] at *
                   first
                     | omega
                     | (simp; done)
                     | (intros; first | assumption | trivial | (simp_all; done))
                 · first
                     | omega
                     | (intros; first | assumption | trivial | (simp_all; done)))))
    | skip
  all_goals
    subst hS hA hX hW hR hGFsH hGFsR hGFsS hGFsU
    clear hH
    simp only [A0, nc, FsH0, FsR0, FsS0, FsU0] at *
    have ei : IntKind.wrap .i64 (j + 1) = j + 1 := wrap_i64 (by unfold r64; omega)
  all_goals first
    | (have hlt : j < (ps.length : Int) := by simp_all
       have ek : IntKind.wrap .i64 (k + 1) = k + 1 := wrap_i64 (by
         have : cntS ⟨s_lo, s_hi⟩ ps j.toNat ≤ ps.length := by
           unfold cntS
           exact Nat.le_trans (List.length_filter_le _ _) (by rw [List.length_take]; omega)
         unfold r64; omega)
       have hrow := prow hps hj.1 hlt
       have hat := hat (i := j.toNat) (by omega)
       have hsuc := hsuc (i := j.toNat) (by omega)
       rw [show j.toNat + 1 = (j + 1).toNat by omega] at hsuc
       generalize ps[j.toNat]'(by omega) = p at *
       simp only [hrow, Pair.row, List.drop_zero, List.map_cons, List.map_nil, List.getElem?_cons_zero, List.getElem?_cons_succ, Nat.zero_add] at *
       first
         | (have hq := ‹(!hasS ⟨s_lo, s_hi⟩ p.key) = true›
            have hq : hasS ⟨s_lo, s_hi⟩ p.key = false := by simpa using hq
            rw [hq, if_neg (by simp)] at hsuc
            refine ⟨(j + 1, k), ⟨⟨by show (0 : Int) ≤ j + 1; omega, by show j + 1 ≤ (ps.length : Int); omega⟩, by show k = (cntS _ ps (j + 1).toNat : Int); rw [hsuc]; exact hk⟩, by show (ps.length : Int).toNat - (j + 1).toNat < (ps.length : Int).toNat - j.toNat; omega, told_less ?_⟩
            simp [toldP, getS, ei]
            done)
         | (have hq := ‹(!hasS ⟨s_lo, s_hi⟩ p.key) = false›
            have hq : hasS ⟨s_lo, s_hi⟩ p.key = true := by simpa using hq
            rw [hq, if_pos rfl] at hsuc
            obtain ⟨hat1, hat2⟩ := hat hq
            have hrk : k < (rs.length : Int) → rs[k.toNat]? = some p := fun h => by
              have := hat1 (by omega)
              rwa [show cntS ⟨s_lo, s_hi⟩ ps j.toNat = k.toNat by omega] at this
            have hrow2 : k < (rs.length : Int) → r.getD k.toNat [] = p.row := fun h => by
              have := hrk h
              rw [hr1, pairsX, List.getD_eq_getElem?_getD, List.getElem?_map, this]
              rfl
            by_cases hkr : k < (rs.length : Int)
            · simp only [hrow2 hkr, Pair.row, List.drop_zero, List.map_cons, List.map_nil, List.getElem?_cons_zero, List.getElem?_cons_succ, Nat.zero_add] at *
              first
                | (simp; done)
                | (intro _; rfl)
                | (refine ⟨(j + 1, k + 1), ⟨⟨by show (0 : Int) ≤ j + 1; omega, by show j + 1 ≤ (ps.length : Int); omega⟩, by show k + 1 = (cntS _ ps (j + 1).toNat : Int); rw [hsuc]; omega⟩, by show (ps.length : Int).toNat - (j + 1).toNat < (ps.length : Int).toNat - j.toNat; omega, told_less ?_⟩
                   simp [toldP, getS, ei, ek]
                   done)
                | (exfalso
                   have e1 : decide (k < (r.length : Int)) = true := by rw [hrl]; simpa using hkr
                   have e2 : decide ((r.length : Int) ≤ k) = false := by rw [hrl]; simpa using hkr
                   simp only [e1, e2] at *
                   simp at *
                   done)
            · first
                | (intro hh
                   exfalso
                   have e1 : decide (k < (r.length : Int)) = false := by rw [hrl]; simpa using hkr
                   rw [e1] at hh
                   cases hh
                   done)
                | (refine ⟨(j + 1, k + 1), ⟨⟨by show (0 : Int) ≤ j + 1; omega, by show j + 1 ≤ (ps.length : Int); omega⟩, by show k + 1 = (cntS _ ps (j + 1).toNat : Int); rw [hsuc]; omega⟩, by show (ps.length : Int).toNat - (j + 1).toNat < (ps.length : Int).toNat - j.toNat; omega, told_less ?_⟩
                   simp [toldP, getS, ei, ek]
                   done)
                | (exfalso
                   have e1 : decide (k < (r.length : Int)) = false := by rw [hrl]; simpa using hkr
                   have e3 := hat2 (by omega)
                   simp only [e1, e3] at *
                   simp at *
                   done)))
    | (have hge : ¬ j < (ps.length : Int) := by simp_all
       have e0 := hce j.toNat (by omega)
       rw [e0] at hk
       obtain ⟨⟨q1, q2⟩, q3, q4⟩ := hend
       have e1 : decide ((r.length : Int) ≤ 8) = true := by rw [hrl]; simpa using (by omega : (rs.length : Int) ≤ 8)
       have e2 : decide ((r.length : Int) ≤ k) = true := by rw [hrl, hk]; simpa using q2
       have e3 : decide ((r.length : Int) < k) = more := by rw [hrl, hk, q3]; simp
       have e4 : more = true → (r.length : Int) = 8 := fun h => by rw [hrl]; have := q4 h; omega
       first
         | (clear q3; cases more <;> simp_all; done)
         | (refine ret_v ?_ rfl
            clear q3
            cases more <;> simp_all [boolD]
            done))
    | skip
  all_goals trace_state
  all_goals fail
end Go.Proofs.Ytbceikkjogbgeaa
