/- Chapter 12: any owners, any client and number, any reply. No condition. -/
import Derived.Test.YtjlbdfehkbcmfaaDed
import Derived.Test.YtjlbdfehkbcmfaaAm32
namespace Go.Proofs.Ytjlbdfehkbcmfaa
open Go.RowKit
set_option linter.all false
set_option maxHeartbeats 4000000

theorem note_get {os : List Owner} (hos : os.length = 8) (client seq : Int) (r : Reply) {i : Int} (h0 : 0 ≤ i) (h1 : i < 8) :
    ∃ o q : Owner, (noteOs os client seq r)[i.toNat]? = some q ∧ os[i.toNat]? = some o ∧ q = if i = client - 1 then ⟨seq, r⟩ else o := by
  have hl : i.toNat < os.length := by omega
  refine ⟨os[i.toNat], if i = client - 1 then ⟨seq, r⟩ else os[i.toNat], ?_, List.getElem?_eq_getElem hl, rfl⟩
  unfold noteOs
  cases hk : knownX client with
  | false =>
    rw [cond_false, if_neg]
    · exact List.getElem?_eq_getElem hl
    · intro e
      have : knownX client = true := by simp only [knownX, Bool.and_eq_true, decide_eq_true_eq]; omega
      rw [hk] at this
      cases this
  | true =>
    have hk' := hk
    simp only [knownX, Bool.and_eq_true, decide_eq_true_eq] at hk'
    rw [cond_true, List.getElem?_set]
    by_cases e : i = client - 1
    · rw [if_pos (by omega), if_pos e, if_pos (by omega)]
    · rw [if_neg (by omega), if_neg e]
      exact List.getElem?_eq_getElem hl
theorem own_cell2 {cs : List DV} {os : List Owner} (hcs : cs = ownsD os) {i : Nat} {o : Owner} (h : os[i]? = some o) : cs[i * 6]? = some (.d (.sc (.int .i64 o.seq))) ∧ cs[i * 6 + 1]? = some (.d (.sc (.int .i64 o.reply.why))) ∧ cs[i * 6 + 2]? = some (.d (.sc (.bool o.reply.found))) ∧
    cs[i * 6 + 3]? = some (.d (.sc (.string o.reply.value))) ∧ cs[i * 6 + 4]? = some (.d (.sc (.int .i64 o.reply.version))) ∧ cs[i * 6 + 5]? = some (.d (.slc 3 o.reply.pairs)) ∧ (cs.drop (i * 6)).take 6 = o.cells ∧ i * 6 + 6 ≤ cs.length ∧
    (cs.drop (i * 6)).take 1 = [.d (.sc (.int .i64 o.seq))] ∧ (cs.drop (i * 6 + 1)).take 5 = [.d (.sc (.int .i64 o.reply.why)), .d (.sc (.bool o.reply.found)), .d (.sc (.string o.reply.value)), .d (.sc (.int .i64 o.reply.version)), .d (.slc 3 o.reply.pairs)] := by
  obtain ⟨hl, rfl⟩ := List.getElem?_eq_some_iff.1 h
  obtain ⟨a0, a1, a2, a3, a4, a5, a6, a7⟩ := own_cell hcs i hl
  refine ⟨a0, a1, a2, a3, a4, a5, a6, a7, ?_, own_tail hcs i hl⟩
  subst hcs
  rw [own_drop i os hl]
  rfl
theorem state_nil (cs : List DV) : stateU [] cs = rightU cs := by
  unfold stateU stateX rightU rightO
  rw [show rightX [] = true from rfl, Bool.and_true]
theorem look_un {cs : List DV} {client : Int} (hk : knownX client = false) (seq : Int) : lookU cs client seq = (0, zeroRep) := by
  unfold lookU lookX
  rw [hk]
  rfl
theorem look_kn {cs : List DV} (h : isOwn cs) {client : Int} (hk : knownX client = true) {o : Owner} (ho : ownOf cs (client - 1).toNat = o) (seq : Int) :
    lookU cs client seq = bif decide (o.seq < seq) then (1, zeroRep) else bif decide (seq = o.seq) then (2, o.reply) else (3, zeroRep) := by
  unfold lookU lookX
  rw [own_up h, hk, ho]
  rfl
theorem wrap_at {client i : Int} (h : r64 client) (h0 : 0 ≤ i) (h1 : i < 8) : i = IntKind.wrap .i64 (client - 1) ↔ i = client - 1 := by
  by_cases hc : client = -9223372036854775808
  · subst hc
    have e : IntKind.wrap .i64 (-9223372036854775808 - 1) = 9223372036854775807 := by decide
    rw [e]
    omega
  · rw [wrap_i64 (by unfold r64 at *; omega)]

set_option maxRecDepth 100000 in
theorem v_tells12 (cs : List DV) (client : Int) (seq : Int) (r : Reply) (hp0 : isOwn cs) (hp1 : isP r.pairs) (hp2 : r64 client) : FnV Try.prog 6 [.agg cs, intD client, intD seq, Reply.D r] (boolD (((fun (_ : List DV) (_ _ : Int) (_ : Reply) => true) cs client seq r))) := by
  obtain ⟨r_why, r_found, r_value, r_version, r_pairs⟩ := r
  obtain ⟨os, hos, hcs, hop⟩ := id hp0
  have hn := isOwnU.note hp0.u (r := ⟨r_why, r_found, r_value, r_version, r_pairs⟩) hp1 client seq
  obtain ⟨ns, hns⟩ : ∃ ns, ns = noteU cs client seq ⟨r_why, r_found, r_value, r_version, r_pairs⟩ := ⟨_, rfl⟩
  rw [← hns] at hn
  have hnl := hn.len
  have hnq : ns = ownsD (noteOs os client seq ⟨r_why, r_found, r_value, r_version, r_pairs⟩) := by rw [hns]; exact noteX_D hos ((own_up hp0).trans hcs) _ _ _
  have hkb : A0.cond (A0.cmp .geq client 1) (A0.cmp .leq client 8) false = knownX client := by
    show (bif decide (1 ≤ client) then decide (client ≤ 8) else false) = (decide (1 ≤ client) && decide (client ≤ 8))
    cases decide (1 ≤ client) <;> rfl
  cases hk : knownX client
  · rw [hk] at hkb
    obtain ⟨GFsR, hGFsR⟩ : ∃ F, F = FsR0 := ⟨_, rfl⟩
    obtain ⟨GFsD, hGFsD⟩ : ∃ F, F = FsD0 := ⟨_, rfl⟩
    have hH : SoundK Try.prog [kn_state GFsR, kn_lookU GFsD, kn_noteU GFsD, kn_rightU GFsD, kn_replies GFsR, kn_runs GFsD] := by subst hGFsR hGFsD; exact orK_ok ok_state (orK_ok ok_lookU (orK_ok ok_noteU (orK_ok ok_rightU (orK_ok ok_replies (orK_ok ok_runs noK_ok)))))
    refine FnD_cbv (T := fun _ => tabY [0, 1004, 1018, 30, 1053, 59, 69, 70, 77, 78] []) (H := fun _ => [kn_state GFsR, kn_lookU GFsD, kn_noteU GFsD, kn_rightU GFsD, kn_replies GFsR, kn_runs GFsD]) (tabY_ok _ _) hH follows_mixed Try.func6 rfl Try.ntmps6 (by simp) fun A X W hA hX hW => ?_
    cbv
    have e : A.tk cs 0 1 48 = cs := by subst hA; exact tk48 (isOwn.len hp0)
    have e3 : A.spl Z48 0 (GFsD.noteU cs client seq ⟨r_why, r_found, r_value, r_version, r_pairs⟩) = ns := by
      subst hA hGFsD
      rw [hns] at hnl
      rw [hns]
      show Z48.take 0 ++ noteU cs client seq ⟨r_why, r_found, r_value, r_version, r_pairs⟩ ++ Z48.drop (0 + (noteU cs client seq ⟨r_why, r_found, r_value, r_version, r_pairs⟩).length) = _
      rw [hnl]
      exact List.append_nil _
    cbv at e e3
    simp only [e, e3]
    repeat' first
      | (refine part (fun h => ?_) (fun h => ?_) <;> (try cbv) <;> (try simp only [e, e3]))
      | (refine And.intro ?_ ?_)
    all_goals first
      | (subst hA hGFsR hGFsD
         first
           | exact Bool.noConfusion (hkb.symm.trans (by assumption))
           | rfl
           | (show cs.length ≤ 1000000; rw [isOwn.len hp0]; decide)
           | (show 0 + 1 * 48 ≤ cs.length; rw [isOwn.len hp0]; decide)
           | exact isOwn.len hp0
           | exact isOwn.u hp0
           | exact hp1
           | exact Nat.le_refl 48
           | exact hnl
           | exact (congrArg List.length hns).symm.trans hnl
           | (show Region.lexB _ _ = true; kernel_rfl)
           | (show turnsB _ = true; kernel_rfl)
           | (intro _; trivial)
           | (intro hq; exact hq)
           | (intro hq; simpa [A0] using hq))
      | skip
    all_goals
      refine loopK (T := fun _ => tabY [0, 1004, 1018, 30, 1053, 59, 69, 70, 77, 78] []) (H := fun _ => [kn_state GFsR, kn_lookU GFsD, kn_noteU GFsD, kn_rightU GFsD, kn_replies GFsR, kn_runs GFsD]) (tabY_ok _ _) hH follows_mixed hA hX [1, 2, 4, 7, 9, 10, 11, 13, 14, 15] 16 0 (fun i => 0 ≤ i ∧ i ≤ 8) (fun i => 8 - i.toNat) rfl ⟨by omega, by omega⟩ ?_
      rintro R i hR ⟨i0, i1⟩
      cbv
      refine part (fun h2 => ?_) (fun h2 => ?_) <;> cbv <;> try simp only [e, e3]
      · replace hos : os.length = 8 := hos
        replace i0 : 0 ≤ i := i0
        have hi : i < 8 := by
          subst hA
          simp only [A0, decide_eq_true_eq] at h2
          exact h2
        obtain ⟨o, q, hq, ho, hqo⟩ := note_get hos client seq ⟨r_why, r_found, r_value, r_version, r_pairs⟩ i0 hi
        have hoP : isP o.reply.pairs := hop _ (List.mem_of_getElem? ho)
        have hqP : isP q.reply.pairs := noteOs_isP hop hp1 client seq _ (List.mem_of_getElem? hq)
        obtain ⟨g0, g1, g2, g3, g4, g5, gt, gl, ga, gb⟩ := own_cell2 hcs ho
        obtain ⟨p0, p1, p2, p3, p4, p5, pt, pl, pa, pb⟩ := own_cell2 hnq hq
        have q2 : ns[i.toNat * 6 + 1 + 1]? = some (.d (.sc (.bool q.reply.found))) := p2
        have q3 : ns[i.toNat * 6 + 1 + 2]? = some (.d (.sc (.string q.reply.value))) := p3
        have q4 : ns[i.toNat * 6 + 1 + 3]? = some (.d (.sc (.int .i64 q.reply.version))) := p4
        have q5 : ns[i.toNat * 6 + 1 + 4]? = some (.d (.slc 3 q.reply.pairs)) := p5
        have hwr := wrap_at hp2 i0 hi
        repeat' first
          | (refine part (fun h3 => ?_) (fun h3 => ?_) <;> (try cbv) <;> (try simp only [e, e3]))
          | (refine And.intro ?_ ?_)
        all_goals subst hA hX hW hR hGFsR hGFsD
        all_goals first
          | rfl
          | exact ⟨i0, hi⟩
          | (show Region.lexB _ _ = true; kernel_rfl)
          | (show turnsB _ = true; kernel_rfl)
          | (simp only [A0, Nat.zero_add, g0, g1, g2, g3, g4, g5, gt]; exact ⟨rfl, gl, rfl⟩)
          | (simp only [A0, Nat.zero_add, Nat.add_zero, p0, pa]; exact ⟨rfl, by omega, trivial⟩)
          | (intro _; trivial)
          | (intro _; exact ⟨i0, hi⟩)
          | (intro hq; exact hq)
          | (intro hq; simpa [A0] using hq)
          | (intro _; simp only [A0, Nat.zero_add, p1, q2, q3, q4, q5, pb]; exact ⟨rfl, by omega, trivial⟩)
          | (intro _; show isP _; simp only [A0, Nat.zero_add, q5]; exact hqP)
          | (intro _; exact hp1)
          | (intro _; show isP _; simp only [A0, Nat.zero_add, g5]; exact hoP)
          | skip
        all_goals first
          | (rename_i h4
             exfalso
             first
               | (have e4 : i = client - 1 := hwr.1 (by simpa [A0] using h4)
                  rw [if_pos e4] at hqo
                  subst hqo
                  simp only [A0, FsR0, Nat.zero_add, Nat.add_zero, p0, p1, q2, q3, q4, q5] at h3
                  simp [repliesX] at h3
                  done)
               | (have e4 : ¬ i = client - 1 := fun e9 => absurd (hwr.2 e9) (by simpa [A0] using h4)
                  rw [if_neg e4] at hqo
                  subst hqo
                  simp only [A0, FsR0, Nat.zero_add, Nat.add_zero, p0, p1, q2, q3, q4, q5, g0, g1, g2, g3, g4, g5] at h3
                  simp [repliesX] at h3
                  done))
          | (have hw : IntKind.wrap .i64 (i + 1) = i + 1 := wrap_i64 (by unfold r64; omega)
             refine ⟨i + 1, ⟨by omega, by omega⟩, by omega, ?_⟩
             first
               | exact told_keep [0, 1, 2, 3, 4] rfl (by simp [keepSt, pullBox, pullL, pullD, own_pullL _ hcs, own_pullL _ hnq]) ⟨.inl (congrArg (fun n => DV.d (.sc (.int .i64 n))) hw.symm), .inl rfl, .inl rfl, .inl rfl, .inl rfl, .inl rfl, .inl rfl, .inl rfl, .inl rfl, .inl rfl, .inl rfl, trivial⟩
               | exact told_keep [0, 1, 2, 3, 4, 5] rfl (by simp [keepSt, pullBox, pullL, pullD, own_pullL _ hcs, own_pullL _ hnq]) ⟨.inl (congrArg (fun n => DV.d (.sc (.int .i64 n))) hw.symm), .inl rfl, .inl rfl, .inl rfl, .inl rfl, .inl rfl, .inl rfl, .inl rfl, .inl rfl, .inl rfl, .inl rfl, trivial⟩)
          | trace_state
      · repeat' (refine And.intro ?_ ?_)
        all_goals subst hA hX hW hR hGFsR hGFsD
        all_goals first
          | rfl
          | (show 0 + 1 * 48 ≤ cs.length; rw [isOwn.len hp0]; decide)
          | exact isOwn.u hp0
          | (intro _; trivial)
          | (intro hq; exact hq)
          | (intro hq; simpa [A0] using hq)
          | (intro _; exact isOwnU.look (isOwn.u hp0) _ _)
          | (intro _; exact isP.nil)
          | skip
        refine ret_v ?_ rfl
        have hl := look_un (cs := cs) hk seq
        have hs := state_nil cs
        simp only [A0, FsD0, FsR0, hl, hs]
        simp [repliesX, boolD, zeroRep]
  · rw [hk] at hkb
    obtain ⟨ew, k0, k1, o1, eo1, ho1, g0, g1, g2, g3, g4, g5, gt, gl⟩ := own_at hos hcs hop hk
    obtain ⟨GFsR, hGFsR⟩ : ∃ F, F = FsR0 := ⟨_, rfl⟩
    obtain ⟨GFsD, hGFsD⟩ : ∃ F, F = FsD0 := ⟨_, rfl⟩
    have hH : SoundK Try.prog [kn_state GFsR, kn_lookU GFsD, kn_noteU GFsD, kn_rightU GFsD, kn_replies GFsR, kn_runs GFsD] := by subst hGFsR hGFsD; exact orK_ok ok_state (orK_ok ok_lookU (orK_ok ok_noteU (orK_ok ok_rightU (orK_ok ok_replies (orK_ok ok_runs noK_ok)))))
    refine FnD_cbv (T := fun _ => tabY [0, 1004, 1018, 30, 1053, 59, 69, 70, 77, 78] []) (H := fun _ => [kn_state GFsR, kn_lookU GFsD, kn_noteU GFsD, kn_rightU GFsD, kn_replies GFsR, kn_runs GFsD]) (tabY_ok _ _) hH follows_mixed Try.func6 rfl Try.ntmps6 (by simp) fun A X W hA hX hW => ?_
    cbv
    have e : A.tk cs 0 1 48 = cs := by subst hA; exact tk48 (isOwn.len hp0)
    have e3 : A.spl Z48 0 (GFsD.noteU cs client seq ⟨r_why, r_found, r_value, r_version, r_pairs⟩) = ns := by
      subst hA hGFsD
      rw [hns] at hnl
      rw [hns]
      show Z48.take 0 ++ noteU cs client seq ⟨r_why, r_found, r_value, r_version, r_pairs⟩ ++ Z48.drop (0 + (noteU cs client seq ⟨r_why, r_found, r_value, r_version, r_pairs⟩).length) = _
      rw [hnl]
      exact List.append_nil _
    cbv at e e3
    simp only [e, e3]
    repeat' first
      | (refine part (fun h => ?_) (fun h => ?_) <;> (try cbv) <;> (try simp only [e, e3]))
      | (refine And.intro ?_ ?_)
    all_goals first
      | (subst hA hGFsR hGFsD
         first
           | exact Bool.noConfusion (hkb.symm.trans (by assumption))
           | rfl
           | (show cs.length ≤ 1000000; rw [isOwn.len hp0]; decide)
           | (show 0 + 1 * 48 ≤ cs.length; rw [isOwn.len hp0]; decide)
           | exact isOwn.len hp0
           | exact isOwn.u hp0
           | exact hp1
           | exact Nat.le_refl 48
           | exact hnl
           | exact (congrArg List.length hns).symm.trans hnl
           | (show Region.lexB _ _ = true; kernel_rfl)
           | (show turnsB _ = true; kernel_rfl)
           | (intro _; trivial)
           | (intro hq; exact hq)
           | (intro hq; simpa [A0] using hq)
           | (simp only [A0, ew]; exact ⟨k0, k1⟩)
           | (simp only [A0, ew, Nat.zero_add, g0, g1, g2, g3, g4, g5, gt]; exact ⟨rfl, gl, rfl⟩))
      | skip
    all_goals rename_i hkn hgt
    all_goals
      have hgt2 := (show decide (o1.seq < seq) = A.cmp .gtr seq (A.gi cs (A.off 0 (A.bin .sub .i64 client 1) 6)) by subst hA; simp only [A0, ew, Nat.zero_add, g0]).trans hgt
      have heq2 := (show decide (seq = o1.seq) = A.cmp .eql seq (A.gi cs (A.off 0 (A.bin .sub .i64 client 1) 6)) by subst hA; simp only [A0, ew, Nat.zero_add, g0]).trans h
      have hlk := look_kn hp0 hk eo1 seq
      rw [hgt2, heq2] at hlk
      simp only [cond_true, cond_false] at hlk
      refine loopK (T := fun _ => tabY [0, 1004, 1018, 30, 1053, 59, 69, 70, 77, 78] []) (H := fun _ => [kn_state GFsR, kn_lookU GFsD, kn_noteU GFsD, kn_rightU GFsD, kn_replies GFsR, kn_runs GFsD]) (tabY_ok _ _) hH follows_mixed hA hX [1, 2, 4, 7, 9, 10, 11, 13, 14, 15] 16 0 (fun i => 0 ≤ i ∧ i ≤ 8) (fun i => 8 - i.toNat) rfl ⟨by omega, by omega⟩ ?_
      rintro R i hR ⟨i0, i1⟩
      cbv
      refine part (fun h2 => ?_) (fun h2 => ?_) <;> cbv <;> try simp only [e, e3]
      · replace hos : os.length = 8 := hos
        replace i0 : 0 ≤ i := i0
        have hi : i < 8 := by
          subst hA
          simp only [A0, decide_eq_true_eq] at h2
          exact h2
        obtain ⟨o, q, hq, ho, hqo⟩ := note_get hos client seq ⟨r_why, r_found, r_value, r_version, r_pairs⟩ i0 hi
        have hoP : isP o.reply.pairs := hop _ (List.mem_of_getElem? ho)
        have hqP : isP q.reply.pairs := noteOs_isP hop hp1 client seq _ (List.mem_of_getElem? hq)
        clear g0 g1 g2 g3 g4 g5 gt gl
        obtain ⟨g0, g1, g2, g3, g4, g5, gt, gl, ga, gb⟩ := own_cell2 hcs ho
        obtain ⟨p0, p1, p2, p3, p4, p5, pt, pl, pa, pb⟩ := own_cell2 hnq hq
        have q2 : ns[i.toNat * 6 + 1 + 1]? = some (.d (.sc (.bool q.reply.found))) := p2
        have q3 : ns[i.toNat * 6 + 1 + 2]? = some (.d (.sc (.string q.reply.value))) := p3
        have q4 : ns[i.toNat * 6 + 1 + 3]? = some (.d (.sc (.int .i64 q.reply.version))) := p4
        have q5 : ns[i.toNat * 6 + 1 + 4]? = some (.d (.slc 3 q.reply.pairs)) := p5
        have hwr := wrap_at hp2 i0 hi
        repeat' first
          | (refine part (fun h3 => ?_) (fun h3 => ?_) <;> (try cbv) <;> (try simp only [e, e3]))
          | (refine And.intro ?_ ?_)
        all_goals subst hA hX hW hR hGFsR hGFsD
        all_goals first
          | rfl
          | exact ⟨i0, hi⟩
          | (show Region.lexB _ _ = true; kernel_rfl)
          | (show turnsB _ = true; kernel_rfl)
          | (simp only [A0, Nat.zero_add, g0, g1, g2, g3, g4, g5, gt]; exact ⟨rfl, gl, rfl⟩)
          | (simp only [A0, Nat.zero_add, Nat.add_zero, p0, pa]; exact ⟨rfl, by omega, trivial⟩)
          | (intro _; trivial)
          | (intro _; exact ⟨i0, hi⟩)
          | (intro hq; exact hq)
          | (intro hq; simpa [A0] using hq)
          | (intro _; simp only [A0, Nat.zero_add, p1, q2, q3, q4, q5, pb]; exact ⟨rfl, by omega, trivial⟩)
          | (intro _; show isP _; simp only [A0, Nat.zero_add, q5]; exact hqP)
          | (intro _; exact hp1)
          | (intro _; show isP _; simp only [A0, Nat.zero_add, g5]; exact hoP)
          | skip
        all_goals first
          | (rename_i h4
             exfalso
             first
               | (have e4 : i = client - 1 := hwr.1 (by simpa [A0] using h4)
                  rw [if_pos e4] at hqo
                  subst hqo
                  simp only [A0, FsR0, Nat.zero_add, Nat.add_zero, p0, p1, q2, q3, q4, q5] at h3
                  simp [repliesX] at h3
                  done)
               | (have e4 : ¬ i = client - 1 := fun e9 => absurd (hwr.2 e9) (by simpa [A0] using h4)
                  rw [if_neg e4] at hqo
                  subst hqo
                  simp only [A0, FsR0, Nat.zero_add, Nat.add_zero, p0, p1, q2, q3, q4, q5, g0, g1, g2, g3, g4, g5] at h3
                  simp [repliesX] at h3
                  done))
          | (have hw : IntKind.wrap .i64 (i + 1) = i + 1 := wrap_i64 (by unfold r64; omega)
             refine ⟨i + 1, ⟨by omega, by omega⟩, by omega, ?_⟩
             first
               | exact told_keep [0, 1, 2, 3, 4] rfl (by simp [keepSt, pullBox, pullL, pullD, own_pullL _ hcs, own_pullL _ hnq]) ⟨.inl (congrArg (fun n => DV.d (.sc (.int .i64 n))) hw.symm), .inl rfl, .inl rfl, .inl rfl, .inl rfl, .inl rfl, .inl rfl, .inl rfl, .inl rfl, .inl rfl, .inl rfl, trivial⟩
               | exact told_keep [0, 1, 2, 3, 4, 5] rfl (by simp [keepSt, pullBox, pullL, pullD, own_pullL _ hcs, own_pullL _ hnq]) ⟨.inl (congrArg (fun n => DV.d (.sc (.int .i64 n))) hw.symm), .inl rfl, .inl rfl, .inl rfl, .inl rfl, .inl rfl, .inl rfl, .inl rfl, .inl rfl, .inl rfl, .inl rfl, trivial⟩)
          | trace_state
      · repeat' (refine And.intro ?_ ?_)
        all_goals subst hA hX hW hR hGFsR hGFsD
        all_goals first
          | rfl
          | (show 0 + 1 * 48 ≤ cs.length; rw [isOwn.len hp0]; decide)
          | exact isOwn.u hp0
          | (intro _; trivial)
          | (intro hq; exact hq)
          | (intro hq; simpa [A0] using hq)
          | (intro _; exact isOwnU.look (isOwn.u hp0) _ _)
          | (intro _; exact isP.nil)
          | (intro _; show isP _; simp only [A0, ew, Nat.zero_add, g5]; exact ho1)
          | skip
        first
          | (exfalso
             simp only [decide_eq_true_eq] at hgt2 heq2
             omega)
          | (refine ret_v ?_ rfl
             have hs := state_nil cs
             simp only [A0, FsD0, FsR0, hlk, hs, ew, Nat.zero_add, g0, g1, g2, g3, g4, g5]
             simp [repliesX, boolD, zeroRep]
             done)
end Go.Proofs.Ytjlbdfehkbcmfaa
