/- Right states behind commands. No condition. -/
import Derived.Test.YtijknhdaipnjaaaStZ
namespace Go.Proofs.Ytijknhdaipnjaaa
open Go.RowKit
set_option linter.all false
/-- May a pair be, its version at most so much? -/
def okPr (k : Int) (p : Pair) : Prop := ltb none8 p.key = true ∧ p.key.size ≤ 16 ∧ p.value.size ≤ 64 ∧ 1 ≤ p.version ∧ p.version ≤ k
def okP (k : Int) (ps : List Pair) : Prop := Srt ps ∧ ps.length ≤ 32 ∧ ∀ p ∈ ps, okPr k p
theorem okPr.mono {k n : Int} {p : Pair} (h : okPr k p) (hn : k ≤ n) : okPr n p := ⟨h.1, h.2.1, h.2.2.1, h.2.2.2.1, by have := h.2.2.2.2; omega⟩
theorem okP.mono {k n : Int} {ps : List Pair} (h : okP k ps) (hn : k ≤ n) : okP n ps := ⟨h.1, h.2.1, fun p hp => (h.2.2 p hp).mono hn⟩
theorem okP.nil {k : Int} : okP k [] := ⟨List.Pairwise.nil, by decide, by simp⟩
theorem okP.isP {k : Int} {ps : List Pair} (h : okP k ps) : isP (pairsX ps) := ⟨ps, rfl, by have := h.2.1; omega⟩
theorem riseP_ok {k : Int} : ∀ (ps : List Pair) (last : ByteArray), Srt ps → (∀ p ∈ ps, okPr k p ∧ ltb last p.key = true) → riseP last ps = true
  | [], _, _, _ => rfl
  | p :: ps, last, hs, h => by
      unfold Srt at hs
      rw [List.pairwise_cons] at hs
      obtain ⟨⟨h1, h2, h3, h4, h5⟩, h6⟩ := h p (by simp)
      have := riseP_ok ps p.key hs.2 fun q hq => ⟨(h q (by simp [hq])).1, hs.1 q hq⟩
      simp only [riseP, okP1, h6, this, Bool.and_true, Bool.true_and, Bool.and_eq_true, decide_eq_true_eq]
      exact ⟨⟨h2, h3⟩, h4⟩
theorem okP.right {k : Int} {ps : List Pair} (h : okP k ps) : rightX (pairsX ps) = true := by
  unfold rightX rightP
  rw [pairsOf_X, riseP_ok ps none8 h.1 fun p hp => ⟨h.2.2 p hp, (h.2.2 p hp).1⟩]
  simpa using h.2.1
theorem mem_look {ps : List Pair} (hs : Srt ps) {p : Pair} (hp : p ∈ ps) : look ps p.key = some p := by
  induction ps with
  | nil => simp at hp
  | cons q ps ih =>
    unfold Srt at hs
    rw [List.pairwise_cons] at hs
    rcases List.mem_cons.1 hp with rfl | hp
    · exact look_cons_eq
    · rw [look_cons_ne (ltb_ne (hs.1 p hp))]
      exact ih hs.2 hp
theorem look_mem {ps : List Pair} {key : ByteArray} {p : Pair} (h : look ps key = some p) : p ∈ ps ∧ p.key = key := by
  unfold look at h
  have h1 := List.mem_of_find?_eq_some h
  have h2 := List.find?_some h
  exact ⟨h1, by simpa using h2⟩
theorem putX_len {xs : List (List PD)} (h : xs.length ≤ 32) (key value : ByteArray) : (putX xs key value).1.length ≤ 32 := by
  unfold putX
  split
  · rw [setP_len]; exact h
  · split
    · decide
    · simp only [newP, List.length_append, List.length_take, List.length_drop, List.length_singleton]
      omega
theorem delX_len {xs : List (List PD)} (h : xs.length ≤ 32) (key : ByteArray) : (delX xs key).1.length ≤ 32 := by
  unfold delX
  split
  · simp only [delP, List.length_append, List.length_take, List.length_drop]
    omega
  · exact h
theorem put_ok {k : Int} {ps : List Pair} (h : okP k ps) {key value : ByteArray} (h1 : ltb none8 key = true) (h2 : key.size ≤ 16) (h3 : value.size ≤ 64) (hk : 0 ≤ k) (hk2 : k ≤ 4611686018427387904) (hw : (putX (pairsX ps) key value).2 = 0) :
    ∃ qs, (putX (pairsX ps) key value).1 = pairsX qs ∧ okP (k + 1) qs ∧ (∀ j, j ≠ key → look qs j = look ps j) ∧ look qs key = some ⟨key, value, match look ps key with | some p => p.version + 1 | none => 1⟩ := by
  obtain ⟨qs, e, hs, hj, hq⟩ := put_look h.1 key value hw
  have hl := putX_len (xs := pairsX ps) (by rw [pairsX_length]; exact h.2.1) key value
  rw [e, pairsX_length] at hl
  have hq2 : look qs key = some ⟨key, value, match look ps key with | some p => p.version + 1 | none => 1⟩ := by
    rw [hq]
    cases hlk : look ps key with
    | none => rfl
    | some p =>
      have := h.2.2 p (look_mem hlk).1
      simp only
      rw [wrap_i64 (by unfold r64; have := this.2.2.2; omega)]
  refine ⟨qs, e, ⟨hs, hl, fun p hp => ?_⟩, hj, hq2⟩
  have hlp := mem_look hs hp
  by_cases hpk : p.key = key
  · rw [hpk, hq2] at hlp
    cases hlp
    refine ⟨h1, h2, h3, ?_, ?_⟩
    · cases hlk : look ps key with
      | none => simp
      | some q => have := (h.2.2 q (look_mem hlk).1).2.2.2; simp only; omega
    · cases hlk : look ps key with
      | none => simp only; omega
      | some q => have := (h.2.2 q (look_mem hlk).1).2.2.2; simp only; omega
  · rw [hj _ hpk] at hlp
    exact (h.2.2 p (look_mem hlp).1).mono (by omega)
theorem del_ok {k : Int} {ps : List Pair} (h : okP k ps) (key : ByteArray) : ∃ qs, (delX (pairsX ps) key).1 = pairsX qs ∧ okP k qs ∧ (∀ j, j ≠ key → look qs j = look ps j) ∧ look qs key = none := by
  obtain ⟨qs, e, hs, hj, hq⟩ := del_look h.1 key
  have hl := delX_len (xs := pairsX ps) (by rw [pairsX_length]; exact h.2.1) key
  rw [e, pairsX_length] at hl
  refine ⟨qs, e, ⟨hs, hl, fun p hp => ?_⟩, hj, hq⟩
  have hlp := mem_look hs hp
  by_cases hpk : p.key = key
  · rw [hpk, hq] at hlp; cases hlp
  · rw [hj _ hpk] at hlp
    exact h.2.2 p (look_mem hlp).1
theorem range_eq (ps : List Pair) (s : Span) : rangeX (pairsX ps) s = (pairsX ((ps.filter fun p => hasS s p.key).take 8), decide (8 < (ps.filter fun p => hasS s p.key).length)) := by
  unfold rangeX
  rw [pairsOf_X, rangeL_filter s ps [] (by simp)]
  simp
theorem Srt.sub {ps qs : List Pair} (h : Srt ps) (hq : qs.Sublist ps) : Srt qs := List.Pairwise.sublist hq h
theorem range_ok {k : Int} {ps : List Pair} (h : okP k ps) (s : Span) : okP k ((ps.filter fun p => hasS s p.key).take 8) ∧ ((ps.filter fun p => hasS s p.key).take 8).length ≤ 8 := by
  have hsub : ((ps.filter fun p => hasS s p.key).take 8).Sublist ps := (List.take_sublist _ _).trans List.filter_sublist
  refine ⟨⟨h.1.sub hsub, ?_, fun p hp => h.2.2 p (hsub.subset hp)⟩, ?_⟩
  · exact Nat.le_trans hsub.length_le h.2.1
  · rw [List.length_take]; omega
/-- May a reply be? -/
def okRp (k : Int) (r : Reply) : Prop := (r.why = 0 ∨ r.why = 7) ∧ r.value.size ≤ 64 ∧ 0 ≤ r.version ∧ r.version ≤ k ∧ ∃ ps, r.pairs = pairsX ps ∧ okP k ps ∧ ps.length ≤ 8
theorem okRp.mono {k n : Int} {r : Reply} (h : okRp k r) (hn : k ≤ n) : okRp n r := by
  obtain ⟨h1, h2, h3, h4, ps, h5, h6, h7⟩ := h
  exact ⟨h1, h2, h3, by omega, ps, h5, h6.mono hn, h7⟩
theorem okRp.right {k : Int} {r : Reply} (h : okRp k r) : rightRep r = true := by
  obtain ⟨h1, h2, h3, h4, ps, h5, h6, h7⟩ := h
  unfold rightRep
  rw [h5, h6.right, pairsX_length]
  simp only [Bool.and_true, Bool.and_eq_true, Bool.or_eq_true, decide_eq_true_eq]
  exact ⟨⟨⟨h1, h2⟩, h3⟩, h7⟩
theorem okRp.zero {k : Int} (hk : 0 ≤ k) : okRp k zeroRep := ⟨.inl rfl, by decide, by decide, hk, [], rfl, okP.nil, by decide⟩
theorem okRp.isP {k : Int} {r : Reply} (h : okRp k r) : Proofs.Ytijknhdaipnjaaa.isP r.pairs := by
  obtain ⟨_, _, _, _, ps, h5, h6, _⟩ := h
  rw [h5]
  exact h6.isP
def okOw (k : Int) (o : Owner) : Prop := 0 ≤ o.seq ∧ o.seq ≤ 1099511627776 ∧ okRp k o.reply ∧ (o.seq = 0 → o.reply = zeroRep)
theorem okOw.mono {k n : Int} {o : Owner} (h : okOw k o) (hn : k ≤ n) : okOw n o := ⟨h.1, h.2.1, h.2.2.1.mono hn, h.2.2.2⟩
theorem okOw.right {k : Int} {o : Owner} (h : okOw k o) : okO o = true := by
  obtain ⟨h1, h2, h3, h4⟩ := h
  unfold okO
  rw [h3.right]
  simp only [Bool.and_true, Bool.and_eq_true, Bool.or_eq_true, decide_eq_true_eq, Bool.not_eq_true', decide_eq_false_iff_not]
  refine ⟨⟨h1, h2⟩, ?_⟩
  by_cases e : o.seq = 0
  · right; rw [h4 e]; rfl
  · left; exact e
def okSt (k : Int) (ps : List Pair) (os : List Owner) : Prop := okP k ps ∧ os.length = 8 ∧ ∀ o ∈ os, okOw k o
def cellsS (ps : List Pair) (os : List Owner) : List DV := .d (.slc 3 (pairsX ps)) :: ownsD os
theorem rightOs_all : ∀ {os : List Owner}, (∀ o ∈ os, okO o = true) → rightOs os = true
  | [], _ => rfl
  | o :: os, h => by
      have := rightOs_all (os := os) fun q hq => h q (List.mem_cons_of_mem _ hq)
      show (okO o && rightOs os) = true
      rw [h o (List.mem_cons_self ..), this]
      rfl
theorem okSt.own {k : Int} {ps : List Pair} {os : List Owner} (h : okSt k ps os) : isOwn (ownsD os) := ⟨os, h.2.1, rfl, fun o ho => (h.2.2 o ho).2.2.1.isP⟩
theorem okSt.is {k : Int} {ps : List Pair} {os : List Owner} (h : okSt k ps os) : isSt (cellsS ps os) := isSt.mk h.1.isP h.own
theorem okSt.prs {k : Int} {ps : List Pair} {os : List Owner} (h : okSt k ps os) : prsS (cellsS ps os) = pairsX ps := rfl
theorem okSt.owns {k : Int} {ps : List Pair} {os : List Owner} (h : okSt k ps os) : ownS (cellsS ps os) = ownsD os := own_mk h.own
theorem okSt.right {k : Int} {ps : List Pair} {os : List Owner} (h : okSt k ps os) : rightSt (cellsS ps os) = true := by
  unfold rightSt stateX
  rw [h.prs, h.owns, ownersOf_D h.2.1 rfl, rightOs_all fun o ho => (h.2.2 o ho).right, h.1.right]
  rfl
theorem right_facts {c : Cmd} (h : rightC c = true) (hz : ¬ c = .zero) : (1 ≤ c.kind ∧ c.kind ≤ 5) ∧ (1 ≤ c.client ∧ c.client ≤ 8) ∧ (1 ≤ c.seq ∧ c.seq ≤ 1099511627776) ∧ c.key.size ≤ 16 ∧ c.fin.size ≤ 16 ∧ c.val.size ≤ 64 ∧ (c.kind ≠ 5 → ltb none8 c.key = true) := by
  unfold rightC at h
  simp only [hz, decide_false, Bool.false_or, Bool.and_eq_true, Bool.or_eq_true, decide_eq_true_eq, Bool.not_eq_true', decide_eq_false_iff_not, within] at h
  obtain ⟨⟨⟨⟨⟨⟨⟨⟨h1, h2⟩, h3⟩, h4⟩, h5⟩, h6⟩, h7⟩, h8⟩, h9⟩ := h
  refine ⟨h1, h2, h3, h5, h6, h8, fun hk => ?_⟩
  rcases h9 with h9 | h9
  · exact ltb_not (ltb_empty _) h9
  · exact absurd h9 hk
theorem got_ok {k : Int} {ps : List Pair} (h : okP k ps) (hk : 0 ≤ k) (key : ByteArray) : (getP (pairsX ps) key).1.value.size ≤ 64 ∧ 0 ≤ (getP (pairsX ps) key).1.version ∧ (getP (pairsX ps) key).1.version ≤ k := by
  rw [get_look h.1, gotL]
  cases hl : look ps key with
  | none => exact ⟨by decide, by decide, hk⟩
  | some p =>
    have := h.2.2 p (look_mem hl).1
    exact ⟨this.2.2.1, by have := this.2.2.2; simp only; omega, this.2.2.2.2⟩
theorem put_there {xs : List (List PD)} {key : ByteArray} (h : (getP xs key).2 = true) (value : ByteArray) : (putX xs key value).2 = 0 := by
  have h1 : (findX xs key).2 = true := h
  unfold putX
  rw [if_pos h1]
theorem done_ok {k : Int} {ps : List Pair} (h : okP k ps) (hk : 0 ≤ k) (hk2 : k ≤ 4611686018427387904) {c : Cmd} (hc : rightC c = true) (hz : ¬ c = .zero) :
    ∃ qs, (doneX (pairsX ps) c).1 = pairsX qs ∧ okP (k + 1) qs ∧ okRp (k + 1) (doneX (pairsX ps) c).2 ∧ (writesC c = false → qs = ps) := by
  obtain ⟨f1, f2, f3, f4, f5, f6, f7⟩ := right_facts hc hz
  obtain ⟨g1, g2, g3⟩ := got_ok h hk c.key
  have hm : okP (k + 1) ps := h.mono (by omega)
  have e0 : okP (k + 1) [] := okP.nil
  have hw : IntKind.wrap .i64 ((getP (pairsX ps) c.key).1.version + 1) = (getP (pairsX ps) c.key).1.version + 1 := wrap_i64 (by unfold r64; omega)
  have hb : (0 : Int) ≤ k + 1 := by omega
  have hn : (none8 : ByteArray).size ≤ 64 := by decide
  by_cases k1 : c.kind = 1
  · refine ⟨ps, ?_, hm, ?_, fun _ => rfl⟩
    · simp only [doneX, k1, decide_true, cond_true]
    · simp only [doneX, k1, decide_true, cond_true]
      exact ⟨.inl rfl, g1, g2, (by omega : (getP (pairsX ps) c.key).1.version ≤ k + 1), [], rfl, e0, by decide⟩
  by_cases k2 : c.kind = 2
  · simp only [doneX, k2, decide_true, cond_true, show decide ((2 : Int) = 1) = false from rfl, cond_false]
    by_cases hp : (putX (pairsX ps) c.key c.val).2 = 0
    · obtain ⟨qs, e, hq, _⟩ := put_ok h (f7 (by omega)) f4 f6 hk hk2 hp
      simp only [hp, decide_true, Bool.not_true, cond_false]
      have q1 : 0 ≤ IntKind.wrap .i64 ((getP (pairsX ps) c.key).1.version + 1) := by rw [hw]; omega
      have q2 : IntKind.wrap .i64 ((getP (pairsX ps) c.key).1.version + 1) ≤ k + 1 := by rw [hw]; omega
      exact ⟨qs, e, hq, ⟨.inl rfl, hn, q1, q2, [], rfl, e0, by decide⟩, fun hx => by simp [writesC, k2] at hx⟩
    · have h7 : (putX (pairsX ps) c.key c.val).2 = 7 := (putX_why _ _ _).resolve_left hp
      simp only [h7, show decide ((7 : Int) = 0) = false from rfl, Bool.not_false, cond_true]
      exact ⟨ps, rfl, hm, ⟨.inr rfl, hn, Int.le_refl _, hb, [], rfl, e0, by decide⟩, fun _ => rfl⟩
  by_cases k3 : c.kind = 3
  · simp only [doneX, k3, decide_true, cond_true, show decide ((3 : Int) = 1) = false from rfl, show decide ((3 : Int) = 2) = false from rfl, cond_false]
    obtain ⟨qs, e, hq, _⟩ := del_ok h c.key
    exact ⟨qs, e, hq.mono (by omega), ⟨.inl rfl, hn, g2, (by omega : (getP (pairsX ps) c.key).1.version ≤ k + 1), [], rfl, e0, by decide⟩, fun hx => by simp [writesC, k3] at hx⟩
  by_cases k4 : c.kind = 4
  · simp only [doneX, k4, decide_true, cond_true, show decide ((4 : Int) = 1) = false from rfl, show decide ((4 : Int) = 2) = false from rfl, show decide ((4 : Int) = 3) = false from rfl, cond_false]
    cases hg : (getP (pairsX ps) c.key).2 with
    | false =>
      simp only [Bool.not_false, cond_true]
      exact ⟨ps, rfl, hm, ⟨.inl rfl, g1, g2, (by omega : (getP (pairsX ps) c.key).1.version ≤ k + 1), [], rfl, e0, by decide⟩, fun _ => rfl⟩
    | true =>
      simp only [Bool.not_true, cond_false]
      by_cases ho : (getP (pairsX ps) c.key).1.value = c.old
      · simp only [ho, decide_true, Bool.not_true, cond_false]
        obtain ⟨qs, e, hq, _⟩ := put_ok h (f7 (by omega)) f4 f6 hk hk2 (put_there hg c.val)
        rw [ho] at g1
        have q1 : 0 ≤ IntKind.wrap .i64 ((getP (pairsX ps) c.key).1.version + 1) := by rw [hw]; omega
        have q2 : IntKind.wrap .i64 ((getP (pairsX ps) c.key).1.version + 1) ≤ k + 1 := by rw [hw]; omega
        exact ⟨qs, e, hq, ⟨.inl rfl, g1, q1, q2, [], rfl, e0, by decide⟩, fun hx => by simp [writesC, k4] at hx⟩
      · simp only [ho, decide_false, Bool.not_false, cond_true]
        exact ⟨ps, rfl, hm, ⟨.inl rfl, g1, g2, (by omega : (getP (pairsX ps) c.key).1.version ≤ k + 1), [], rfl, e0, by decide⟩, fun _ => rfl⟩
  · have k5 : c.kind = 5 := by omega
    simp only [doneX, k5, show decide ((5 : Int) = 1) = false from rfl, show decide ((5 : Int) = 2) = false from rfl, show decide ((5 : Int) = 3) = false from rfl, show decide ((5 : Int) = 4) = false from rfl, cond_false, range_eq]
    have hr := range_ok hm ⟨c.key, c.fin⟩
    exact ⟨ps, rfl, hm, ⟨.inl rfl, hn, Int.le_refl _, hb, _, rfl, hr.1, hr.2⟩, fun _ => rfl⟩
/-- The owner of a client. -/
def ownAt (os : List Owner) (client : Int) : Owner := os.getD (client - 1).toNat ⟨0, zeroRep⟩
theorem ownAt_mem {os : List Owner} {client : Int} (h : os.length = 8) (h1 : 1 ≤ client) (h2 : client ≤ 8) : ownAt os client ∈ os := by
  have : (client - 1).toNat < os.length := by omega
  unfold ownAt
  rw [List.getD_eq_getElem?_getD, List.getElem?_eq_getElem this]
  exact List.getElem_mem this
theorem look_os {os : List Owner} (hos : os.length = 8) (hp : isOwn (ownsD os)) {client : Int} (h1 : 1 ≤ client) (h2 : client ≤ 8) (seq : Int) :
    lookU (ownsD os) client seq = if (ownAt os client).seq < seq then (1, zeroRep) else if seq = (ownAt os client).seq then (2, (ownAt os client).reply) else (3, zeroRep) := by
  have hi : (client - 1).toNat < os.length := by omega
  have e := ownOf_D (cs := ownsD os) rfl _ hi
  have e2 : os[(client - 1).toNat]'hi = ownAt os client := by
    unfold ownAt
    rw [List.getD_eq_getElem?_getD, List.getElem?_eq_getElem hi]
    rfl
  unfold lookU
  rw [own_up hp]
  unfold lookX
  rw [e, e2]
  simp only [knownX, h1, h2, decide_true, Bool.and_self, cond_true, cond_eq_ite, decide_eq_true_eq, if_true]
theorem note_os {os : List Owner} (hos : os.length = 8) (hp : isOwn (ownsD os)) {client : Int} (h1 : 1 ≤ client) (h2 : client ≤ 8) (seq : Int) (r : Reply) : noteU (ownsD os) client seq r = ownsD (os.set (client - 1).toNat ⟨seq, r⟩) := by
  unfold noteU
  rw [own_up hp, noteX_D hos rfl]
  simp [noteOs, knownX, h1, h2]
/-- What a command comes to, over pairs and owners. -/
theorem apply_cases {k : Int} {ps : List Pair} {os : List Owner} (h : okSt k ps os) (hk : 0 ≤ k) (hk2 : k ≤ 4611686018427387904) (c : Cmd) :
    (c = .zero ∧ applyS (cellsS ps os) c = (cellsS ps os, zeroRep)) ∨
    (¬ c = .zero ∧ rightC c = false ∧ applyS (cellsS ps os) c = (cellsS ps os, ⟨1, false, none8, 0, []⟩)) ∨
    (¬ c = .zero ∧ rightC c = true ∧ c.seq = (ownAt os c.client).seq ∧ applyS (cellsS ps os) c = (cellsS ps os, (ownAt os c.client).reply)) ∨
    (¬ c = .zero ∧ rightC c = true ∧ c.seq < (ownAt os c.client).seq ∧ applyS (cellsS ps os) c = (cellsS ps os, ⟨9, false, none8, 0, []⟩)) ∨
    (¬ c = .zero ∧ rightC c = true ∧ (ownAt os c.client).seq < c.seq ∧ ∃ qs r, doneX (pairsX ps) c = (pairsX qs, r) ∧ okP (k + 1) qs ∧ okRp (k + 1) r ∧ (writesC c = false → qs = ps) ∧ applyS (cellsS ps os) c = (cellsS qs (os.set (c.client - 1).toNat ⟨c.seq, r⟩), r)) := by
  unfold applyS
  rw [h.prs, h.owns]
  unfold applyL
  by_cases hz : c = .zero
  · left
    refine ⟨hz, ?_⟩
    simp only [hz, decide_true, cond_true]
    rfl
  right
  cases hr : rightC c with
  | false =>
    left
    refine ⟨hz, rfl, ?_⟩
    simp only [decide_eq_false hz, cond_false, Bool.not_false, cond_true]
    rfl
  | true =>
    right
    obtain ⟨_, f2, f3, _⟩ := right_facts hr hz
    have hl := look_os h.2.1 h.own f2.1 f2.2 c.seq
    simp only [decide_eq_false hz, cond_false, Bool.not_true]
    rw [hl]
    by_cases h1 : (ownAt os c.client).seq < c.seq
    · right; right
      simp only [if_pos h1, show decide ((1 : Int) = 2) = false from rfl, show decide ((1 : Int) = 3) = false from rfl, cond_false]
      obtain ⟨qs, e, hq, hR, hw⟩ := done_ok h.1 hk hk2 hr hz
      refine ⟨hz, trivial, h1, qs, (doneX (pairsX ps) c).2, Prod.ext e rfl, hq, hR, hw, ?_⟩
      rw [e, note_os h.2.1 h.own f2.1 f2.2]
      rfl
    · simp only [if_neg h1]
      by_cases h2 : c.seq = (ownAt os c.client).seq
      · left
        simp only [if_pos h2, decide_true, cond_true]
        exact ⟨hz, trivial, h2, rfl⟩
      · right; left
        simp only [if_neg h2, show decide ((3 : Int) = 2) = false from rfl, decide_true, cond_true, cond_false]
        exact ⟨hz, trivial, by omega, rfl⟩
theorem okSt.mono {k n : Int} {ps : List Pair} {os : List Owner} (h : okSt k ps os) (hn : k ≤ n) : okSt n ps os := ⟨h.1.mono hn, h.2.1, fun o ho => (h.2.2 o ho).mono hn⟩
theorem okSt.set {k : Int} {ps qs : List Pair} {os : List Owner} (h : okSt k ps os) (hq : okP k qs) {o : Owner} (ho : okOw k o) (i : Nat) : okSt k qs (os.set i o) :=
  ⟨hq, by rw [List.length_set]; exact h.2.1, fun x hx => by
    rcases List.mem_or_eq_of_mem_set hx with h1 | h1
    · exact h.2.2 x h1
    · rw [h1]; exact ho⟩
theorem apply_ok {k : Int} {ps : List Pair} {os : List Owner} (h : okSt k ps os) (hk : 0 ≤ k) (hk2 : k ≤ 4611686018427387904) (c : Cmd) : ∃ qs rs, (applyS (cellsS ps os) c).1 = cellsS qs rs ∧ okSt (k + 1) qs rs := by
  have hm := h.mono (show k ≤ k + 1 by omega)
  rcases apply_cases h hk hk2 c with ⟨_, e⟩ | ⟨_, _, e⟩ | ⟨_, _, _, e⟩ | ⟨_, _, _, e⟩ | ⟨hz, hr, hlt, qs, r, _, hq, hR, _, e⟩
  · exact ⟨ps, os, by rw [e], hm⟩
  · exact ⟨ps, os, by rw [e], hm⟩
  · exact ⟨ps, os, by rw [e], hm⟩
  · exact ⟨ps, os, by rw [e], hm⟩
  · obtain ⟨_, f2, f3, _⟩ := right_facts hr hz
    exact ⟨qs, _, by rw [e], hm.set hq ⟨by show 0 ≤ c.seq; omega, f3.2, hR, fun e => absurd e (by show ¬ c.seq = 0; omega)⟩ _⟩
theorem upS_cells {k : Int} {ps : List Pair} {os : List Owner} (h : okSt k ps os) : upS (cellsS ps os) = cellsS ps os := st_up h.own
theorem playL_st : ∀ (l : List Cmd) {k : Int} {ps : List Pair} {os : List Owner} (acc : List Reply), okSt k ps os → 0 ≤ k → k + l.length ≤ 4611686018427387904 → ∃ qs rs, (playL (cellsS ps os) l acc).1 = cellsS qs rs ∧ okSt (k + l.length) qs rs
  | [], k, ps, os, acc, h, _, _ => ⟨ps, os, rfl, by simpa using h⟩
  | c :: l, k, ps, os, acc, h, hk, hk2 => by
      rw [List.length_cons] at hk2
      obtain ⟨qs, rs, e, h2⟩ := apply_ok h hk (by omega) c
      obtain ⟨q2, r2, e2, h3⟩ := playL_st l (acc ++ [(applyS (cellsS ps os) c).2]) h2 (by omega) (by omega)
      refine ⟨q2, r2, ?_, ?_⟩
      · show (playL (applyS (cellsS ps os) c).1 l _).1 = _
        rw [e]
        exact e2
      · rw [List.length_cons]
        rw [show k + ((l.length + 1 : Nat) : Int) = k + 1 + (l.length : Int) by omega]
        exact h3
theorem zero_st : okSt 0 [] (List.replicate 8 ⟨0, zeroRep⟩) := ⟨okP.nil, rfl, fun o ho => by
  rw [List.eq_of_mem_replicate ho]
  exact ⟨by decide, by decide, okRp.zero (by decide), fun _ => rfl⟩⟩

end Go.Proofs.Ytijknhdaipnjaaa
