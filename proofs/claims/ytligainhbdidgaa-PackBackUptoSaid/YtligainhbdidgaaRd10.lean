/- Any things written, one behind the other. No condition. -/
import Derived.Test.YtligainhbdidgaaRd9
import Derived.Test.YtligainhbdidgaaRd7
namespace Go.Proofs.Ytligainhbdidgaa
open Go.RowKit
set_option linter.all false

theorem wpD_after {P : Program} {N : Nat} {c : Code} {Q : Exit → Slots → Store → Prop} {s : Slots} {st : Store} (h : wpD P N c (fun e s' st' => ∃ s2 st2, Tells st.length s' st' s2 st2 ∧ Q e s2 st2) s st) : wpD P N c Q s st := by
  intro E a hc hst hs
  refine wp_mono (h E a hc hst hs) ?_
  rintro e a' w' ⟨s', E', rfl, ⟨s2, st2, ht, hq⟩, h1, h2, h3⟩
  obtain ⟨E2, a1, a2, a3, a4, a5⟩ := ht E' N a' h1 rfl h3
  exact ⟨s2, E2, a1, by rw [a2]; exact hq, a3, a5 E hc.len (by rw [hst]; exact Nat.le_refl _) h2, a4⟩
/-- A statement behind which the state is told otherwise. -/
theorem afterL {P : Program} {T : Unit → Tab} (hT : TabOk P (T ())) {H : Unit → Kn} (hH : SoundK P (H ())) (hm : P.follows .mixedOrders = true) {N : Nat} {c : Code} {Q : Exit → SL → Store → Prop} {s : SL} {st : Store} {A : Ar} {X : Cps} (hA : A = A0) (hX : X = X0 P N)
    (h : wpC T A X H N c (fun e s' st' => ∃ s2 st2, Told st.length s' st' s2 st2 ∧ Q e s2 st2) s st) : X.st c Q s st := by
  subst hA; subst hX
  show wpD P N c (lessQ Q) (getS s) st
  refine wpD_after (wpD_mono (wpC_ok hT hH hm c _ _ _ h) ?_)
  rintro e s' st' ⟨l, hl, s2, st2, ht, hq⟩
  exact ⟨getS s2, st2, Tells.trans (Tells.any _ _ _ _ hl) ht, s2, fun _ => .inl rfl, hq⟩
def isBk (k : Nat) (xs : List (List PD)) : Prop := ∃ bs, xs = bytesP bs ∧ bs.length ≤ 1048576 + 120 * k
theorem isBk.isB {k : Nat} {xs : List (List PD)} (h : isBk k xs) (hk : k ≤ 100) : isB xs := by
  obtain ⟨bs, rfl, hb⟩ := h
  exact ⟨bs, rfl, by omega⟩
theorem isBk.put {i : Nat} {xs : List (List PD)} {k n : Int} {s : ByteArray} {f : Bool} (h : isBk i xs) (hs : s.size ≤ 100) : isBk (i + 1) (putX xs k n s f) := by
  obtain ⟨bs, rfl, hb⟩ := h
  unfold putX
  have hn := numB_length n
  have hz : s.data.toList.length = s.size := by rw [Array.length_toList]; rfl
  have ht := numB_length (s.size : Int)
  split
  · exact ⟨bs ++ numB n, by rw [numX, bytesP_append], by simp only [List.length_append]; omega⟩
  split
  · exact ⟨bs ++ textB s, by rw [textX, bytesP_append], by simp only [textB, List.length_append, hz]; omega⟩
  split
  · exact ⟨bs ++ [if f then 1 else 0], by rw [flagX, bytesP_append], by simp only [List.length_append, List.length_singleton]; omega⟩
  · exact ⟨bs, rfl, by omega⟩
set_option maxRecDepth 100000 in
set_option maxHeartbeats 8000000 in
theorem v_writes (xs ls : List (List PD)) (hp0 : isBk 0 xs) (hp1 : isIt ls) : FnV Try.prog 18 [.d (.slc 1 xs), .d (.slc 4 ls)] (boolD true) := by
  have hl8 := isB_len (hp0.isB (by decide))
  obtain ⟨full, hfull⟩ : ∃ f, f = roomyX xs 11 := ⟨_, rfl⟩
  obtain ⟨GFsU, hFsU⟩ : ∃ F, F = FsU0 := ⟨_, rfl⟩
  obtain ⟨GFsW, hFsW⟩ : ∃ F, F = FsW0 := ⟨_, rfl⟩
  obtain ⟨GFsQ, hFsQ⟩ : ∃ F, F = FsQ0 := ⟨_, rfl⟩
  obtain ⟨GFsT, hFsT⟩ : ∃ F, F = FsT0 := ⟨_, rfl⟩
  have hH : SoundK Try.prog [kn_roomy GFsU, kn_put GFsW, kn_rnum GFsW, kn_rtext GFsW, kn_rflag GFsW, kn_same GFsQ, kn_intact GFsU, kn_runs3 GFsT] := by subst hFsU hFsW hFsQ hFsT; exact orK_ok ok_roomy (orK_ok ok_put (orK_ok ok_rnum (orK_ok ok_rtext (orK_ok ok_rflag (orK_ok ok_same (orK_ok ok_intact (orK_ok ok_runs3 noK_ok)))))))
  have hB : SoundB Try.prog [] := by subst hFsU hFsW hFsQ hFsT; exact noB_ok
  refine FnD_cbv (T := fun _ => tabY [31] [2]) (H := fun _ => [kn_roomy GFsU, kn_put GFsW, kn_rnum GFsW, kn_rtext GFsW, kn_rflag GFsW, kn_same GFsQ, kn_intact GFsU, kn_runs3 GFsT]) (tabY_ok _ _) hH follows_mixed Try.func18 rfl Try.ntmps18 (by simp) fun A X W hA hX hW => ?_
  cbv
  have hpB := hp0.isB (k := 0) (by decide)
  refine And.intro ?_ (And.intro ?_ ?_)
  · subst hFsU; exact hpB
  · subst hFsU; exact ⟨11, rfl⟩
  have er : GFsU.roomy xs 11 = full := by subst hFsU; exact hfull.symm
  cbv at er
  simp only [er]
  refine afterL (T := fun _ => tabY [31] []) (H := fun _ => [kn_roomy GFsU, kn_put GFsW, kn_rnum GFsW, kn_rtext GFsW, kn_rflag GFsW, kn_same GFsQ, kn_intact GFsU, kn_runs3 GFsT]) (tabY_ok _ _) hH follows_mixed hA hX ?_
  cbv
  have efl : full.length = xs.length + 80 := by rw [hfull, roomy_len]
  obtain ⟨bs0, hxs0, hb0⟩ := id hp0
  have hsz1 : ∀ x ∈ xs, x.length = 1 := by rw [hxs0]; exact bytesP_sz bs0
  have esub : ((full.drop (0 : Int).toNat).take (((xs.length : Nat) : Int).toNat - (0 : Int).toNat)) = xs := by
    rw [hfull, show (0 : Int).toNat = 0 from rfl, show ((xs.length : Nat) : Int).toNat - 0 = xs.length by omega, roomy_take]
  refine And.intro ?_ (And.intro ?_ (And.intro ?_ (And.intro ?_ (And.intro ?_ (And.intro ?_ (And.intro ?_ (And.intro ?_ ?_)))))))
  · subst hA; show Region.lexB _ _ = true; kernel_rfl
  · subst hA; show turnsB _ = true; kernel_rfl
  · subst hA; simp only [A0]; rw [efl]; omega
  · subst hA; simp only [A0]; rw [efl]; omega
  · subst hA; simp only [A0]
  · subst hA; simp only [A0]; rfl
  · subst hA; simp only [A0]; omega
  · subst hA; simp only [A0]; rw [efl]; omega
  refine ⟨[(0, .d (.slc 1 xs)), (1, .d (.slc 4 ls)), (5, .d (.slc 1 full)), (6, .d (.slc 1 xs)), (7, .d (.slc 1 xs))], [], ?_, ?_⟩
  · subst hA
    simp only [A0]
    rw [esub]
    refine Told.trans (told_freeze (s' := [(0, .d (.slc 1 xs)), (1, .d (.slc 4 ls)), (5, .d (.slc 1 full)), (6, .d (.slc 1 xs)), (7, .d (.slc 1 xs))]) 0 1 xs _ rfl rfl (Nat.le_refl 0) (by simp) hsz1 rfl ?_) (told_keep [] rfl rfl ?_)
    · simp [toldP, getS, fzD]
    · simp [toldP, getS, pullD]
  cbv
  refine loopL (T := fun _ => tabY [31] [2]) (H := fun _ => [kn_roomy GFsU, kn_put GFsW, kn_rnum GFsW, kn_rtext GFsW, kn_rflag GFsW, kn_same GFsQ, kn_intact GFsU, kn_runs3 GFsT]) (tabY_ok _ _) hH follows_mixed hA hX (fun x : Int × List (List PD) => (0 ≤ x.1 ∧ x.1 ≤ 30) ∧ isBk x.1.toNat x.2)
    (fun x => [(0, .d (.slc 1 xs)), (1, .d (.slc 4 ls)), (5, .d (.slc 1 full)), (6, .d (.slc 1 x.2)), (7, .d (.slc 1 x.2)), (8, .d (.sc (.int .i64 x.1)))]) (fun _ => [])
    (fun x => 30 - x.1.toNat) (0, xs) ?_ ?_ ?_
  · exact ⟨⟨by omega, by omega⟩, hp0⟩
  · exact told_less (by simp [toldP, getS])
  rintro R ⟨i, ws⟩ hR ⟨hi, hbk⟩
  cbv
  repeat' first
    | (refine part (fun h => ?_) (fun h => ?_) <;> try cbv)
    | (refine And.intro ?_ ?_)
    | (with_reducible refine callB hX hB ?_) <;> cbv
  all_goals try replace hi : 0 ≤ i ∧ i ≤ 30 := hi
  all_goals try replace hbk : isBk i.toNat ws := hbk
  all_goals try subst hR
  all_goals subst hA hX hW hFsU hFsT hFsQ hFsW
  all_goals clear hH hB
  all_goals simp only [A0, FsU0, FsT0, FsQ0, FsW0, decide_eq_true_eq, decide_eq_false_iff_not, Bool.not_eq_true', Bool.not_eq_false'] at *
  all_goals try
    have hz := ‹(bif decide (i < (ls.length : Int)) then decide (i < 30) else false) = true›
    have hlt : i < ls.length ∧ i < 30 := by simpa using hz
    obtain ⟨k, n, s, f, hrow, hk, hn, hs⟩ := hp1.row hi.1 hlt.1
    simp only [hrow, List.map_cons, List.map_nil, Nat.zero_add, List.getElem?_cons_zero, List.getElem?_cons_succ] at *
  all_goals have ei : IntKind.wrap .i64 (i + 1) = i + 1 := wrap_i64 (by unfold r64; omega)
  all_goals try have hbB := hbk.isB (by omega)
  all_goals first
    | assumption
    | omega
    | exact ⟨11, rfl⟩
    | (simp; done)
    | (intros; first | assumption | trivial | (simp_all; done))
    | (show ByteArray.size _ ≤ 4194304; rw [ByteArray.size_extract]; omega)
    | (show ByteArray.size _ ≤ 4194304; omega)
    | (refine ⟨by omega, by omega, by omega⟩)
    | (intros; exact ⟨11, rfl⟩)
    | (refine ret_v ?_ rfl; simp [boolD, sameX]; done)
    | (have hb' : isBk (i.toNat + 1) (putX ws k n (s.extract (0 : Int).toNat (100 : Int).toNat) f) := hbk.put (by rw [ByteArray.size_extract]; omega)
       refine ⟨(i + 1, putX ws k n (s.extract (0 : Int).toNat (100 : Int).toNat) f), ⟨(by show 0 ≤ i + 1 ∧ i + 1 ≤ 30; omega), (by show isBk (i + 1).toNat _; rw [show (i + 1).toNat = i.toNat + 1 by omega]; exact hb')⟩, (by show 30 - (i + 1).toNat < 30 - i.toNat; omega), told_keep [] rfl rfl ?_⟩
       clear hb' hbB hbk hs hn hk hp1 hp0 hpB
       first
         | (simp [toldP, getS, pullD, putX, ei, h]; done)
         | (simp_all [toldP, getS, pullD, putX]; done))
    | (have hb' : isBk (i.toNat + 1) (putX ws k n (s) f) := hbk.put (by omega)
       refine ⟨(i + 1, putX ws k n (s) f), ⟨(by show 0 ≤ i + 1 ∧ i + 1 ≤ 30; omega), (by show isBk (i + 1).toNat _; rw [show (i + 1).toNat = i.toNat + 1 by omega]; exact hb')⟩, (by show 30 - (i + 1).toNat < 30 - i.toNat; omega), told_keep [] rfl rfl ?_⟩
       clear hb' hbB hbk hs hn hk hp1 hp0 hpB
       first
         | (simp [toldP, getS, pullD, putX, ei, h]; done)
         | (simp_all [toldP, getS, pullD, putX]; done))

end Go.Proofs.Ytligainhbdidgaa
