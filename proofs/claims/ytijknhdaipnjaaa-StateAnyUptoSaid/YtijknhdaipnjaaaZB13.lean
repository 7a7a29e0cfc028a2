/- Right states behind commands. No condition. -/
import Derived.Test.YtijknhdaipnjaaaStZ
import Derived.Test.YtijknhdaipnjaaaRegF
import Derived.Test.YtijknhdaipnjaaaUp13
namespace Go.Proofs.Ytijknhdaipnjaaa
open Go.RowKit
set_option linter.all false
/-- May a pair be, its version at most so much? -/
def okPr (k : Int) (p : Pair) : Prop := ltb none8 p.key = true ∧ p.key.size ≤ 16 ∧ p.value.size ≤ 64 ∧ 1 ≤ p.version ∧ p.version ≤ k
def okP (k : Int) (ps : List Pair) : Prop := Srt ps ∧ ps.length ≤ 32 ∧ ∀ p ∈ ps, okPr k p
theorem okPr.mono {k n : Int} {p : Pair} (h : okPr k p) (hn : k ≤ n) : okPr n p := ⟨h.1, h.2.1, h.2.2.1, h.2.2.2.1, by have := h.2.2.2.2; omega⟩
theorem okP.mono {k n : Int} {ps : List Pair} (h : okP k ps) (hn : k ≤ n) : okP n ps := ⟨h.1, h.2.1, fun p hp => (h.2.2 p hp).mono hn⟩
theorem okP.nil {k : Int} : okP k [] := ⟨List.Pairwise.nil, by decide, by simp⟩
theorem okP.isP {k : Int} {ps : List Pair} (h : okP k ps) : isP (pairsX ps) := ⟨ps, rfl, by have := h.2.1; omega⟩
theorem riseP_ok {k : Int} : ∀ (ps : List Pair) (last : ByteArray), Srt ps → (∀ p ∈ ps, okPr k p ∧ ltb last p.key = true) → riseP last ps = true
  | [], _, _, _ => rfl
  | p :: ps, last, hs, h => by
      unfold Srt at hs
      rw [List.pairwise_cons] at hs
      obtain ⟨⟨h1, h2, h3, h4, h5⟩, h6⟩ := h p (by simp)
      have := riseP_ok ps p.key hs.2 fun q hq => ⟨(h q (by simp [hq])).1, hs.1 q hq⟩
      simp only [riseP, okP1, h6, this, Bool.and_true, Bool.true_and, Bool.and_eq_true, decide_eq_true_eq]
      exact ⟨⟨h2, h3⟩, h4⟩
theorem okP.right {k : Int} {ps : List Pair} (h : okP k ps) : rightX (pairsX ps) = true := by
  unfold rightX rightP
  rw [pairsOf_X, riseP_ok ps none8 h.1 fun p hp => ⟨h.2.2 p hp, (h.2.2 p hp).1⟩]
  simpa using h.2.1
theorem mem_look {ps : List Pair} (hs : Srt ps) {p : Pair} (hp : p ∈ ps) : look ps p.key = some p := by
  induction ps with
  | nil => simp at hp
  | cons q ps ih =>
    unfold Srt at hs
    rw [List.pairwise_cons] at hs
    rcases List.mem_cons.1 hp with rfl | hp
    · exact look_cons_eq
    · rw [look_cons_ne (ltb_ne (hs.1 p hp))]
      exact ih hs.2 hp
theorem look_mem {ps : List Pair} {key : ByteArray} {p : Pair} (h : look ps key = some p) : p ∈ ps ∧ p.key = key := by
  unfold look at h
  have h1 := List.mem_of_find?_eq_some h
  have h2 := List.find?_some h
  exact ⟨h1, by simpa using h2⟩
theorem putX_len {xs : List (List PD)} (h : xs.length ≤ 32) (key value : ByteArray) : (putX xs key value).1.length ≤ 32 := by
  unfold putX
  split
  · rw [setP_len]; exact h
  · split
    · decide
    · simp only [newP, List.length_append, List.length_take, List.length_drop, List.length_singleton]
      omega
theorem delX_len {xs : List (List PD)} (h : xs.length ≤ 32) (key : ByteArray) : (delX xs key).1.length ≤ 32 := by
  unfold delX
  split
  · simp only [delP, List.length_append, List.length_take, List.length_drop]
    omega
  · exact h
theorem put_ok {k : Int} {ps : List Pair} (h : okP k ps) {key value : ByteArray} (h1 : ltb none8 key = true) (h2 : key.size ≤ 16) (h3 : value.size ≤ 64) (hk : 0 ≤ k) (hk2 : k ≤ 4611686018427387904) (hw : (putX (pairsX ps) key value).2 = 0) :
    ∃ qs, (putX (pairsX ps) key value).1 = pairsX qs ∧ okP (k + 1) qs ∧ (∀ j, j ≠ key → look qs j = look ps j) ∧ look qs key = some ⟨key, value, match look ps key with | some p => p.version + 1 | none => 1⟩ := by
  obtain ⟨qs, e, hs, hj, hq⟩ := put_look h.1 key value hw
  have hl := putX_len (xs := pairsX ps) (by rw [pairsX_length]; exact h.2.1) key value
  rw [e, pairsX_length] at hl
  have hq2 : look qs key = some ⟨key, value, match look ps key with | some p => p.version + 1 | none => 1⟩ := by
    rw [hq]
    cases hlk : look ps key with
    | none => rfl
    | some p =>
      have := h.2.2 p (look_mem hlk).1
      simp only
      rw [wrap_i64 (by unfold r64; have := this.2.2.2; omega)]
  refine ⟨qs, e, ⟨hs, hl, fun p hp => ?_⟩, hj, hq2⟩
  have hlp := mem_look hs hp
  by_cases hpk : p.key = key
  · rw [hpk, hq2] at hlp
    cases hlp
    refine ⟨h1, h2, h3, ?_, ?_⟩
    · cases hlk : look ps key with
      | none => simp
      | some q => have := (h.2.2 q (look_mem hlk).1).2.2.2; simp only; omega
    · cases hlk : look ps key with
      | none => simp only; omega
      | some q => have := (h.2.2 q (look_mem hlk).1).2.2.2; simp only; omega
  · rw [hj _ hpk] at hlp
    exact (h.2.2 p (look_mem hlp).1).mono (by omega)
theorem del_ok {k : Int} {ps : List Pair} (h : okP k ps) (key : ByteArray) : ∃ qs, (delX (pairsX ps) key).1 = pairsX qs ∧ okP k qs ∧ (∀ j, j ≠ key → look qs j = look ps j) ∧ look qs key = none := by
  obtain ⟨qs, e, hs, hj, hq⟩ := del_look h.1 key
  have hl := delX_len (xs := pairsX ps) (by rw [pairsX_length]; exact h.2.1) key
  rw [e, pairsX_length] at hl
  refine ⟨qs, e, ⟨hs, hl, fun p hp => ?_⟩, hj, hq⟩
  have hlp := mem_look hs hp
  by_cases hpk : p.key = key
  · rw [hpk, hq] at hlp; cases hlp
  · rw [hj _ hpk] at hlp
    exact h.2.2 p (look_mem hlp).1
theorem range_eq (ps : List Pair) (s : Span) : rangeX (pairsX ps) s = (pairsX ((ps.filter fun p => hasS s p.key).take 8), decide (8 < (ps.filter fun p => hasS s p.key).length)) := by
  unfold rangeX
  rw [pairsOf_X, rangeL_filter s ps [] (by simp)]
  simp
theorem Srt.sub {ps qs : List Pair} (h : Srt ps) (hq : qs.Sublist ps) : Srt qs := List.Pairwise.sublist hq h
theorem range_ok {k : Int} {ps : List Pair} (h : okP k ps) (s : Span) : okP k ((ps.filter fun p => hasS s p.key).take 8) ∧ ((ps.filter fun p => hasS s p.key).take 8).length ≤ 8 := by
  have hsub : ((ps.filter fun p => hasS s p.key).take 8).Sublist ps := (List.take_sublist _ _).trans List.filter_sublist
  refine ⟨⟨h.1.sub hsub, ?_, fun p hp => h.2.2 p (hsub.subset hp)⟩, ?_⟩
  · exact Nat.le_trans hsub.length_le h.2.1
  · rw [List.length_take]; omega
/-- May a reply be? -/
def okRp (k : Int) (r : Reply) : Prop := (r.why = 0 ∨ r.why = 7) ∧ r.value.size ≤ 64 ∧ 0 ≤ r.version ∧ r.version ≤ k ∧ ∃ ps, r.pairs = pairsX ps ∧ okP k ps ∧ ps.length ≤ 8
theorem okRp.mono {k n : Int} {r : Reply} (h : okRp k r) (hn : k ≤ n) : okRp n r := by
  obtain ⟨h1, h2, h3, h4, ps, h5, h6, h7⟩ := h
  exact ⟨h1, h2, h3, by omega, ps, h5, h6.mono hn, h7⟩
theorem okRp.right {k : Int} {r : Reply} (h : okRp k r) : rightRep r = true := by
  obtain ⟨h1, h2, h3, h4, ps, h5, h6, h7⟩ := h
  unfold rightRep
  rw [h5, h6.right, pairsX_length]
  simp only [Bool.and_true, Bool.and_eq_true, Bool.or_eq_true, decide_eq_true_eq]
  exact ⟨⟨⟨h1, h2⟩, h3⟩, h7⟩
theorem okRp.zero {k : Int} (hk : 0 ≤ k) : okRp k zeroRep := ⟨.inl rfl, by decide, by decide, hk, [], rfl, okP.nil, by decide⟩
theorem okRp.isP {k : Int} {r : Reply} (h : okRp k r) : Proofs.Ytijknhdaipnjaaa.isP r.pairs := by
  obtain ⟨_, _, _, _, ps, h5, h6, _⟩ := h
  rw [h5]
  exact h6.isP
def okOw (k : Int) (o : Owner) : Prop := 0 ≤ o.seq ∧ o.seq ≤ 1099511627776 ∧ okRp k o.reply ∧ (o.seq = 0 → o.reply = zeroRep)
theorem okOw.mono {k n : Int} {o : Owner} (h : okOw k o) (hn : k ≤ n) : okOw n o := ⟨h.1, h.2.1, h.2.2.1.mono hn, h.2.2.2⟩
theorem okOw.right {k : Int} {o : Owner} (h : okOw k o) : okO o = true := by
  obtain ⟨h1, h2, h3, h4⟩ := h
  unfold okO
  rw [h3.right]
  simp only [Bool.and_true, Bool.and_eq_true, Bool.or_eq_true, decide_eq_true_eq, Bool.not_eq_true', decide_eq_false_iff_not]
  refine ⟨⟨h1, h2⟩, ?_⟩
  by_cases e : o.seq = 0
  · right; rw [h4 e]; rfl
  · left; exact e
def okSt (k : Int) (ps : List Pair) (os : List Owner) : Prop := okP k ps ∧ os.length = 8 ∧ ∀ o ∈ os, okOw k o
def cellsS (ps : List Pair) (os : List Owner) : List DV := .d (.slc 3 (pairsX ps)) :: ownsD os
theorem rightOs_all : ∀ {os : List Owner}, (∀ o ∈ os, okO o = true) → rightOs os = true
  | [], _ => rfl
  | o :: os, h => by
      have := rightOs_all (os := os) fun q hq => h q (List.mem_cons_of_mem _ hq)
      show (okO o && rightOs os) = true
      rw [h o (List.mem_cons_self ..), this]
      rfl
theorem okSt.own {k : Int} {ps : List Pair} {os : List Owner} (h : okSt k ps os) : isOwn (ownsD os) := ⟨os, h.2.1, rfl, fun o ho => (h.2.2 o ho).2.2.1.isP⟩
theorem okSt.is {k : Int} {ps : List Pair} {os : List Owner} (h : okSt k ps os) : isSt (cellsS ps os) := isSt.mk h.1.isP h.own
theorem okSt.prs {k : Int} {ps : List Pair} {os : List Owner} (h : okSt k ps os) : prsS (cellsS ps os) = pairsX ps := rfl
theorem okSt.owns {k : Int} {ps : List Pair} {os : List Owner} (h : okSt k ps os) : ownS (cellsS ps os) = ownsD os := own_mk h.own
theorem okSt.right {k : Int} {ps : List Pair} {os : List Owner} (h : okSt k ps os) : rightSt (cellsS ps os) = true := by
  unfold rightSt stateX
  rw [h.prs, h.owns, ownersOf_D h.2.1 rfl, rightOs_all fun o ho => (h.2.2 o ho).right, h.1.right]
  rfl
theorem right_facts {c : Cmd} (h : rightC c = true) (hz : ¬ c = .zero) : (1 ≤ c.kind ∧ c.kind ≤ 5) ∧ (1 ≤ c.client ∧ c.client ≤ 8) ∧ (1 ≤ c.seq ∧ c.seq ≤ 1099511627776) ∧ c.key.size ≤ 16 ∧ c.fin.size ≤ 16 ∧ c.val.size ≤ 64 ∧ (c.kind ≠ 5 → ltb none8 c.key = true) := by
  unfold rightC at h
  simp only [hz, decide_false, Bool.false_or, Bool.and_eq_true, Bool.or_eq_true, decide_eq_true_eq, Bool.not_eq_true', decide_eq_false_iff_not, within] at h
  obtain ⟨⟨⟨⟨⟨⟨⟨⟨h1, h2⟩, h3⟩, h4⟩, h5⟩, h6⟩, h7⟩, h8⟩, h9⟩ := h
  refine ⟨h1, h2, h3, h5, h6, h8, fun hk => ?_⟩
  rcases h9 with h9 | h9
  · exact ltb_not (ltb_empty _) h9
  · exact absurd h9 hk
theorem got_ok {k : Int} {ps : List Pair} (h : okP k ps) (hk : 0 ≤ k) (key : ByteArray) : (getP (pairsX ps) key).1.value.size ≤ 64 ∧ 0 ≤ (getP (pairsX ps) key).1.version ∧ (getP (pairsX ps) key).1.version ≤ k := by
  rw [get_look h.1, gotL]
  cases hl : look ps key with
  | none => exact ⟨by decide, by decide, hk⟩
  | some p =>
    have := h.2.2 p (look_mem hl).1
    exact ⟨this.2.2.1, by have := this.2.2.2; simp only; omega, this.2.2.2.2⟩
theorem put_there {xs : List (List PD)} {key : ByteArray} (h : (getP xs key).2 = true) (value : ByteArray) : (putX xs key value).2 = 0 := by
  have h1 : (findX xs key).2 = true := h
  unfold putX
  rw [if_pos h1]
theorem done_ok {k : Int} {ps : List Pair} (h : okP k ps) (hk : 0 ≤ k) (hk2 : k ≤ 4611686018427387904) {c : Cmd} (hc : rightC c = true) (hz : ¬ c = .zero) :
    ∃ qs, (doneX (pairsX ps) c).1 = pairsX qs ∧ okP (k + 1) qs ∧ okRp (k + 1) (doneX (pairsX ps) c).2 ∧ (writesC c = false → qs = ps) := by
  obtain ⟨f1, f2, f3, f4, f5, f6, f7⟩ := right_facts hc hz
  obtain ⟨g1, g2, g3⟩ := got_ok h hk c.key
  have hm : okP (k + 1) ps := h.mono (by omega)
  have e0 : okP (k + 1) [] := okP.nil
  have hw : IntKind.wrap .i64 ((getP (pairsX ps) c.key).1.version + 1) = (getP (pairsX ps) c.key).1.version + 1 := wrap_i64 (by unfold r64; omega)
  have hb : (0 : Int) ≤ k + 1 := by omega
  have hn : (none8 : ByteArray).size ≤ 64 := by decide
  by_cases k1 : c.kind = 1
  · refine ⟨ps, ?_, hm, ?_, fun _ => rfl⟩
    · simp only [doneX, k1, decide_true, cond_true]
    · simp only [doneX, k1, decide_true, cond_true]
      exact ⟨.inl rfl, g1, g2, (by omega : (getP (pairsX ps) c.key).1.version ≤ k + 1), [], rfl, e0, by decide⟩
  by_cases k2 : c.kind = 2
  · simp only [doneX, k2, decide_true, cond_true, show decide ((2 : Int) = 1) = false from rfl, cond_false]
    by_cases hp : (putX (pairsX ps) c.key c.val).2 = 0
    · obtain ⟨qs, e, hq, _⟩ := put_ok h (f7 (by omega)) f4 f6 hk hk2 hp
      simp only [hp, decide_true, Bool.not_true, cond_false]
      have q1 : 0 ≤ IntKind.wrap .i64 ((getP (pairsX ps) c.key).1.version + 1) := by rw [hw]; omega
      have q2 : IntKind.wrap .i64 ((getP (pairsX ps) c.key).1.version + 1) ≤ k + 1 := by rw [hw]; omega
      exact ⟨qs, e, hq, ⟨.inl rfl, hn, q1, q2, [], rfl, e0, by decide⟩, fun hx => by simp [writesC, k2] at hx⟩
    · have h7 : (putX (pairsX ps) c.key c.val).2 = 7 := (putX_why _ _ _).resolve_left hp
      simp only [h7, show decide ((7 : Int) = 0) = false from rfl, Bool.not_false, cond_true]
      exact ⟨ps, rfl, hm, ⟨.inr rfl, hn, Int.le_refl _, hb, [], rfl, e0, by decide⟩, fun _ => rfl⟩
  by_cases k3 : c.kind = 3
  · simp only [doneX, k3, decide_true, cond_true, show decide ((3 : Int) = 1) = false from rfl, show decide ((3 : Int) = 2) = false from rfl, cond_false]
    obtain ⟨qs, e, hq, _⟩ := del_ok h c.key
    exact ⟨qs, e, hq.mono (by omega), ⟨.inl rfl, hn, g2, (by omega : (getP (pairsX ps) c.key).1.version ≤ k + 1), [], rfl, e0, by decide⟩, fun hx => by simp [writesC, k3] at hx⟩
  by_cases k4 : c.kind = 4
  · simp only [doneX, k4, decide_true, cond_true, show decide ((4 : Int) = 1) = false from rfl, show decide ((4 : Int) = 2) = false from rfl, show decide ((4 : Int) = 3) = false from rfl, cond_false]
    cases hg : (getP (pairsX ps) c.key).2 with
    | false =>
      simp only [Bool.not_false, cond_true]
      exact ⟨ps, rfl, hm, ⟨.inl rfl, g1, g2, (by omega : (getP (pairsX ps) c.key).1.version ≤ k + 1), [], rfl, e0, by decide⟩, fun _ => rfl⟩
    | true =>
      simp only [Bool.not_true, cond_false]
      by_cases ho : (getP (pairsX ps) c.key).1.value = c.old
      · simp only [ho, decide_true, Bool.not_true, cond_false]
        obtain ⟨qs, e, hq, _⟩ := put_ok h (f7 (by omega)) f4 f6 hk hk2 (put_there hg c.val)
        rw [ho] at g1
        have q1 : 0 ≤ IntKind.wrap .i64 ((getP (pairsX ps) c.key).1.version + 1) := by rw [hw]; omega
        have q2 : IntKind.wrap .i64 ((getP (pairsX ps) c.key).1.version + 1) ≤ k + 1 := by rw [hw]; omega
        exact ⟨qs, e, hq, ⟨.inl rfl, g1, q1, q2, [], rfl, e0, by decide⟩, fun hx => by simp [writesC, k4] at hx⟩
      · simp only [ho, decide_false, Bool.not_false, cond_true]
        exact ⟨ps, rfl, hm, ⟨.inl rfl, g1, g2, (by omega : (getP (pairsX ps) c.key).1.version ≤ k + 1), [], rfl, e0, by decide⟩, fun _ => rfl⟩
  · have k5 : c.kind = 5 := by omega
    simp only [doneX, k5, show decide ((5 : Int) = 1) = false from rfl, show decide ((5 : Int) = 2) = false from rfl, show decide ((5 : Int) = 3) = false from rfl, show decide ((5 : Int) = 4) = false from rfl, cond_false, range_eq]
    have hr := range_ok hm ⟨c.key, c.fin⟩
    exact ⟨ps, rfl, hm, ⟨.inl rfl, hn, Int.le_refl _, hb, _, rfl, hr.1, hr.2⟩, fun _ => rfl⟩
/-- The owner of a client. -/
def ownAt (os : List Owner) (client : Int) : Owner := os.getD (client - 1).toNat ⟨0, zeroRep⟩
theorem ownAt_mem {os : List Owner} {client : Int} (h : os.length = 8) (h1 : 1 ≤ client) (h2 : client ≤ 8) : ownAt os client ∈ os := by
  have : (client - 1).toNat < os.length := by omega
  unfold ownAt
  rw [List.getD_eq_getElem?_getD, List.getElem?_eq_getElem this]
  exact List.getElem_mem this
theorem look_os {os : List Owner} (hos : os.length = 8) (hp : isOwn (ownsD os)) {client : Int} (h1 : 1 ≤ client) (h2 : client ≤ 8) (seq : Int) :
    lookU (ownsD os) client seq = if (ownAt os client).seq < seq then (1, zeroRep) else if seq = (ownAt os client).seq then (2, (ownAt os client).reply) else (3, zeroRep) := by
  have hi : (client - 1).toNat < os.length := by omega
  have e := ownOf_D (cs := ownsD os) rfl _ hi
  have e2 : os[(client - 1).toNat]'hi = ownAt os client := by
    unfold ownAt
    rw [List.getD_eq_getElem?_getD, List.getElem?_eq_getElem hi]
    rfl
  unfold lookU
  rw [own_up hp]
  unfold lookX
  rw [e, e2]
  simp only [knownX, h1, h2, decide_true, Bool.and_self, cond_true, cond_eq_ite, decide_eq_true_eq, if_true]
theorem note_os {os : List Owner} (hos : os.length = 8) (hp : isOwn (ownsD os)) {client : Int} (h1 : 1 ≤ client) (h2 : client ≤ 8) (seq : Int) (r : Reply) : noteU (ownsD os) client seq r = ownsD (os.set (client - 1).toNat ⟨seq, r⟩) := by
  unfold noteU
  rw [own_up hp, noteX_D hos rfl]
  simp [noteOs, knownX, h1, h2]
/-- What a command comes to, over pairs and owners. -/
theorem apply_cases {k : Int} {ps : List Pair} {os : List Owner} (h : okSt k ps os) (hk : 0 ≤ k) (hk2 : k ≤ 4611686018427387904) (c : Cmd) :
    (c = .zero ∧ applyS (cellsS ps os) c = (cellsS ps os, zeroRep)) ∨
    (¬ c = .zero ∧ rightC c = false ∧ applyS (cellsS ps os) c = (cellsS ps os, ⟨1, false, none8, 0, []⟩)) ∨
    (¬ c = .zero ∧ rightC c = true ∧ c.seq = (ownAt os c.client).seq ∧ applyS (cellsS ps os) c = (cellsS ps os, (ownAt os c.client).reply)) ∨
    (¬ c = .zero ∧ rightC c = true ∧ c.seq < (ownAt os c.client).seq ∧ applyS (cellsS ps os) c = (cellsS ps os, ⟨9, false, none8, 0, []⟩)) ∨
    (¬ c = .zero ∧ rightC c = true ∧ (ownAt os c.client).seq < c.seq ∧ ∃ qs r, doneX (pairsX ps) c = (pairsX qs, r) ∧ okP (k + 1) qs ∧ okRp (k + 1) r ∧ (writesC c = false → qs = ps) ∧ applyS (cellsS ps os) c = (cellsS qs (os.set (c.client - 1).toNat ⟨c.seq, r⟩), r)) := by
  unfold applyS
  rw [h.prs, h.owns]
  unfold applyL
  by_cases hz : c = .zero
  · left
    refine ⟨hz, ?_⟩
    simp only [hz, decide_true, cond_true]
    rfl
  right
  cases hr : rightC c with
  | false =>
    left
    refine ⟨hz, rfl, ?_⟩
    simp only [decide_eq_false hz, cond_false, Bool.not_false, cond_true]
    rfl
  | true =>
    right
    obtain ⟨_, f2, f3, _⟩ := right_facts hr hz
    have hl := look_os h.2.1 h.own f2.1 f2.2 c.seq
    simp only [decide_eq_false hz, cond_false, Bool.not_true]
    rw [hl]
    by_cases h1 : (ownAt os c.client).seq < c.seq
    · right; right
      simp only [if_pos h1, show decide ((1 : Int) = 2) = false from rfl, show decide ((1 : Int) = 3) = false from rfl, cond_false]
      obtain ⟨qs, e, hq, hR, hw⟩ := done_ok h.1 hk hk2 hr hz
      refine ⟨hz, trivial, h1, qs, (doneX (pairsX ps) c).2, Prod.ext e rfl, hq, hR, hw, ?_⟩
      rw [e, note_os h.2.1 h.own f2.1 f2.2]
      rfl
    · simp only [if_neg h1]
      by_cases h2 : c.seq = (ownAt os c.client).seq
      · left
        simp only [if_pos h2, decide_true, cond_true]
        exact ⟨hz, trivial, h2, rfl⟩
      · right; left
        simp only [if_neg h2, show decide ((3 : Int) = 2) = false from rfl, decide_true, cond_true, cond_false]
        exact ⟨hz, trivial, by omega, rfl⟩
theorem okSt.mono {k n : Int} {ps : List Pair} {os : List Owner} (h : okSt k ps os) (hn : k ≤ n) : okSt n ps os := ⟨h.1.mono hn, h.2.1, fun o ho => (h.2.2 o ho).mono hn⟩
theorem okSt.set {k : Int} {ps qs : List Pair} {os : List Owner} (h : okSt k ps os) (hq : okP k qs) {o : Owner} (ho : okOw k o) (i : Nat) : okSt k qs (os.set i o) :=
  ⟨hq, by rw [List.length_set]; exact h.2.1, fun x hx => by
    rcases List.mem_or_eq_of_mem_set hx with h1 | h1
    · exact h.2.2 x h1
    · rw [h1]; exact ho⟩
theorem apply_ok {k : Int} {ps : List Pair} {os : List Owner} (h : okSt k ps os) (hk : 0 ≤ k) (hk2 : k ≤ 4611686018427387904) (c : Cmd) : ∃ qs rs, (applyS (cellsS ps os) c).1 = cellsS qs rs ∧ okSt (k + 1) qs rs := by
  have hm := h.mono (show k ≤ k + 1 by omega)
  rcases apply_cases h hk hk2 c with ⟨_, e⟩ | ⟨_, _, e⟩ | ⟨_, _, _, e⟩ | ⟨_, _, _, e⟩ | ⟨hz, hr, hlt, qs, r, _, hq, hR, _, e⟩
  · exact ⟨ps, os, by rw [e], hm⟩
  · exact ⟨ps, os, by rw [e], hm⟩
  · exact ⟨ps, os, by rw [e], hm⟩
  · exact ⟨ps, os, by rw [e], hm⟩
  · obtain ⟨_, f2, f3, _⟩ := right_facts hr hz
    exact ⟨qs, _, by rw [e], hm.set hq ⟨by show 0 ≤ c.seq; omega, f3.2, hR, fun e => absurd e (by show ¬ c.seq = 0; omega)⟩ _⟩
theorem upS_cells {k : Int} {ps : List Pair} {os : List Owner} (h : okSt k ps os) : upS (cellsS ps os) = cellsS ps os := st_up h.own
theorem playL_st : ∀ (l : List Cmd) {k : Int} {ps : List Pair} {os : List Owner} (acc : List Reply), okSt k ps os → 0 ≤ k → k + l.length ≤ 4611686018427387904 → ∃ qs rs, (playL (cellsS ps os) l acc).1 = cellsS qs rs ∧ okSt (k + l.length) qs rs
  | [], k, ps, os, acc, h, _, _ => ⟨ps, os, rfl, by simpa using h⟩
  | c :: l, k, ps, os, acc, h, hk, hk2 => by
      rw [List.length_cons] at hk2
      obtain ⟨qs, rs, e, h2⟩ := apply_ok h hk (by omega) c
      obtain ⟨q2, r2, e2, h3⟩ := playL_st l (acc ++ [(applyS (cellsS ps os) c).2]) h2 (by omega) (by omega)
      refine ⟨q2, r2, ?_, ?_⟩
      · show (playL (applyS (cellsS ps os) c).1 l _).1 = _
        rw [e]
        exact e2
      · rw [List.length_cons]
        rw [show k + ((l.length + 1 : Nat) : Int) = k + 1 + (l.length : Int) by omega]
        exact h3
theorem zero_st : okSt 0 [] (List.replicate 8 ⟨0, zeroRep⟩) := ⟨okP.nil, rfl, fun o ho => by
  rw [List.eq_of_mem_replicate ho]
  exact ⟨by decide, by decide, okRp.zero (by decide), fun _ => rfl⟩⟩

end Go.Proofs.Ytijknhdaipnjaaa
namespace Go.Proofs.Ytijknhdaipnjaaa
open Go.RowKit
set_option linter.all false
theorem ownAt_set_same {os : List Owner} (hos : os.length = 8) {c : Int} (h1 : 1 ≤ c) (h2 : c ≤ 8) (o : Owner) : ownAt (os.set (c - 1).toNat o) c = o := by
  have h : c.toNat - 1 < os.length := by omega
  unfold ownAt
  simp [List.getD_eq_getElem?_getD, List.getElem?_set, h]
theorem ownAt_set_ne {os : List Owner} {a c : Int} (h1 : 1 ≤ a) (h2 : 1 ≤ c) (hne : a ≠ c) (o : Owner) : ownAt (os.set (c - 1).toNat o) a = ownAt os a := by
  have h : ¬ c.toNat - 1 = a.toNat - 1 := by omega
  unfold ownAt
  simp [List.getD_eq_getElem?_getD, List.getElem?_set, h]
/-- What a command comes to: the state behind it, and its reply. -/
theorem once_step {k : Int} {ps : List Pair} {os : List Owner} (h : okSt k ps os) (hk : 0 ≤ k) (hk2 : k ≤ 4611686018427387900) (c : Cmd) : ∃ qs rs r, applyS (cellsS ps os) c = (cellsS qs rs, r) ∧ okSt (k + 1) qs rs ∧ isP r.pairs ∧
    applyS (cellsS qs rs) c = (cellsS qs rs, r) ∧ (∀ a, 1 ≤ a → (ownAt os a).seq ≤ (ownAt rs a).seq) ∧
    (qs = ps ∨ (writesC c = true ∧ 1 ≤ c.client ∧ (ownAt os c.client).seq < c.seq ∧ c.seq ≤ (ownAt rs c.client).seq)) := by
  have hm := h.mono (show k ≤ k + 1 by omega)
  have hrep := h.is.rep c
  rcases apply_cases h hk (by omega) c with ⟨_, e⟩ | ⟨_, _, e⟩ | ⟨_, _, _, e⟩ | ⟨_, _, _, e⟩ | ⟨hz, hr, hlt, qs, r, hd, hq, hR, hw, e⟩
  · exact ⟨ps, os, _, e, hm, by rw [e] at hrep; exact hrep, e, fun _ _ => Int.le_refl _, .inl rfl⟩
  · exact ⟨ps, os, _, e, hm, by rw [e] at hrep; exact hrep, e, fun _ _ => Int.le_refl _, .inl rfl⟩
  · exact ⟨ps, os, _, e, hm, by rw [e] at hrep; exact hrep, e, fun _ _ => Int.le_refl _, .inl rfl⟩
  · exact ⟨ps, os, _, e, hm, by rw [e] at hrep; exact hrep, e, fun _ _ => Int.le_refl _, .inl rfl⟩
  · obtain ⟨_, f2, f3, _⟩ := right_facts hr hz
    have hok : okSt (k + 1) qs (os.set (c.client - 1).toNat ⟨c.seq, r⟩) := hm.set hq ⟨by show 0 ≤ c.seq; omega, f3.2, hR, fun e => absurd e (by show ¬ c.seq = 0; omega)⟩ _
    have hs := ownAt_set_same h.2.1 f2.1 f2.2 ⟨c.seq, r⟩
    refine ⟨qs, _, r, e, hok, hR.isP, ?_, fun a ha => ?_, ?_⟩
    · rcases apply_cases hok (by omega) (by omega) c with ⟨e1, _⟩ | ⟨_, e1, _⟩ | ⟨_, _, _, e2⟩ | ⟨_, _, e1, _⟩ | ⟨_, _, e1, _⟩
      · exact absurd e1 hz
      · rw [hr] at e1; cases e1
      · rw [hs] at e2; exact e2
      · rw [hs] at e1; exact absurd e1 (by show ¬ c.seq < c.seq; omega)
      · rw [hs] at e1; exact absurd e1 (by show ¬ c.seq < c.seq; omega)
    · by_cases ha2 : a = c.client
      · subst ha2
        rw [hs]
        exact Int.le_of_lt hlt
      · rw [ownAt_set_ne ha f2.1 ha2]
        exact Int.le_refl _
    · cases hwc : writesC c with
      | false => exact .inl (hw hwc)
      | true => exact .inr ⟨rfl, f2.1, hlt, by rw [hs]; exact Int.le_refl _⟩
theorem sameS_refl (xs : List (List PD)) (cs : List DV) : sameS xs cs xs cs = true := by simp [sameS]
theorem sameSt_refl (s : List DV) : sameSt s s = true := sameS_refl _ _

end Go.Proofs.Ytijknhdaipnjaaa
namespace Go.Proofs.Ytijknhdaipnjaaa
open Go.RowKit
set_option linter.all false
set_option maxHeartbeats 4000000

abbrev Z49 : List DV := .d (.sc (.slice none 0 0)) :: Z48
theorem z49 : isSt Z49 := isSt.ofN zOwn
def cmdsR : List Cmd := [ofC 2 1 1 { data := #[97] } none8 { data := #[49] }, ofC 2 1 1 { data := #[97] } none8 { data := #[49] }, ofC 1 2 1 { data := #[97] } none8 none8, ofC 2 1 0 { data := #[98] } none8 none8, ofC 4 1 2 { data := #[97] } { data := #[49] } { data := #[50] }, ofC 4 1 3 { data := #[97] } { data := #[49] } { data := #[51] }, ofC 3 1 4 { data := #[97] } none8 none8, ofC 2 1 2 { data := #[97] } none8 { data := #[57] }]
theorem rrow {xs : List (List PD)} {rs : List Reply} (hxs : xs = repsX rs) {i : Int} (h0 : 0 ≤ i) (h1 : i < rs.length) : xs.getD i.toNat [] = (rs[i.toNat]'(by omega)).row := by
  subst hxs
  have : i.toNat < rs.length := by omega
  simp [repsX, List.getD_eq_getElem?_getD, this]
def repsR : List Reply := [⟨0, false, none8, 1, []⟩, ⟨0, false, none8, 1, []⟩, ⟨0, true, { data := #[49] }, 1, []⟩, ⟨1, false, none8, 0, []⟩, ⟨0, true, { data := #[49] }, 2, []⟩, ⟨0, false, { data := #[50] }, 2, []⟩, ⟨0, true, none8, 2, []⟩, ⟨9, false, none8, 0, []⟩]
set_option maxRecDepth 100000 in
theorem play_r : (playL (upS Z49) cmdsR []).2 = repsR := by kernel_rfl
theorem play_x : (playX Z49 (cmdsX cmdsR)).2 = repsX repsR := by
  unfold playX
  rw [cmdsOf_X, play_r]

structure FsS7 where
  runs : Bool
def FsS70 : FsS7 where
  runs := true
set_option maxRecDepth 100000 in
theorem v_runs : FnV Try.prog 3 [] (boolD true) := by
  obtain ⟨GFsS6, hGFsS6⟩ : ∃ F, F = FsS60 := ⟨_, rfl⟩
  obtain ⟨GFsOw, hGFsOw⟩ : ∃ F, F = FsOw0 := ⟨_, rfl⟩
  have hH : SoundK Try.prog [kn_of GFsS6, kn_play GFsS6, kn_replies GFsOw] := by subst hGFsS6 hGFsOw; exact orK_ok ok_of (orK_ok ok_play (orK_ok ok_replies noK_ok))
  refine FnD_cbv (T := fun _ => tabY [1017, 5004, 41, 45] [1, 2]) (H := fun _ => [kn_of GFsS6, kn_play GFsS6, kn_replies GFsOw]) (tabY_ok _ _) hH follows_mixed Try.func3 rfl Try.ntmps3 (by simp) fun A X W hA hX hW => ?_
  cbv
  have e0 : GFsS6.of 2 1 1 { data := #[97] } none8 { data := #[49] } = ⟨2, 1, 1, { data := #[97] }, none8, none8, { data := #[49] }⟩ := by subst hGFsS6; rfl
  cbv at e0
  have e1 : GFsS6.of 1 2 1 { data := #[97] } none8 none8 = ⟨1, 2, 1, { data := #[97] }, none8, none8, none8⟩ := by subst hGFsS6; rfl
  cbv at e1
  have e2 : GFsS6.of 2 1 0 { data := #[98] } none8 none8 = ⟨2, 1, 0, { data := #[98] }, none8, none8, none8⟩ := by subst hGFsS6; rfl
  cbv at e2
  have e3 : GFsS6.of 4 1 2 { data := #[97] } { data := #[49] } { data := #[50] } = ⟨4, 1, 2, { data := #[97] }, none8, { data := #[49] }, { data := #[50] }⟩ := by subst hGFsS6; rfl
  cbv at e3
  have e4 : GFsS6.of 4 1 3 { data := #[97] } { data := #[49] } { data := #[51] } = ⟨4, 1, 3, { data := #[97] }, none8, { data := #[49] }, { data := #[51] }⟩ := by subst hGFsS6; rfl
  cbv at e4
  have e5 : GFsS6.of 3 1 4 { data := #[97] } none8 none8 = ⟨3, 1, 4, { data := #[97] }, none8, none8, none8⟩ := by subst hGFsS6; rfl
  cbv at e5
  have e6 : GFsS6.of 2 1 2 { data := #[97] } none8 { data := #[57] } = ⟨2, 1, 2, { data := #[97] }, none8, none8, { data := #[57] }⟩ := by subst hGFsS6; rfl
  cbv at e6
  obtain ⟨sv, hsv⟩ : ∃ sv, sv = (playX Z49 (cmdsX cmdsR)).1 := ⟨_, rfl⟩
  obtain ⟨rr, hrr⟩ : ∃ rr : List (List PD), rr = [[.sc (.int .i64 0), .sc (.bool false), .sc (.string none8), .sc (.int .i64 1), .slc 3 []], [.sc (.int .i64 0), .sc (.bool false), .sc (.string none8), .sc (.int .i64 1), .slc 3 []], [.sc (.int .i64 0), .sc (.bool true), .sc (.string { data := #[49] }), .sc (.int .i64 1), .slc 3 []], [.sc (.int .i64 1), .sc (.bool false), .sc (.string none8), .sc (.int .i64 0), .slc 3 []], [.sc (.int .i64 0), .sc (.bool true), .sc (.string { data := #[49] }), .sc (.int .i64 2), .slc 3 []], [.sc (.int .i64 0), .sc (.bool false), .sc (.string { data := #[50] }), .sc (.int .i64 2), .slc 3 []], [.sc (.int .i64 0), .sc (.bool true), .sc (.string none8), .sc (.int .i64 2), .slc 3 []], [.sc (.int .i64 9), .sc (.bool false), .sc (.string none8), .sc (.int .i64 0), .slc 3 []]] := ⟨_, rfl⟩
  have ep : GFsS6.play Z49 [[.sc (.int .i64 2), .sc (.int .i64 1), .sc (.int .i64 1), .sc (.string { data := #[97] }), .sc (.string none8), .sc (.string none8), .sc (.string { data := #[49] })], [.sc (.int .i64 2), .sc (.int .i64 1), .sc (.int .i64 1), .sc (.string { data := #[97] }), .sc (.string none8), .sc (.string none8), .sc (.string { data := #[49] })], [.sc (.int .i64 1), .sc (.int .i64 2), .sc (.int .i64 1), .sc (.string { data := #[97] }), .sc (.string none8), .sc (.string none8), .sc (.string none8)], [.sc (.int .i64 2), .sc (.int .i64 1), .sc (.int .i64 0), .sc (.string { data := #[98] }), .sc (.string none8), .sc (.string none8), .sc (.string none8)], [.sc (.int .i64 4), .sc (.int .i64 1), .sc (.int .i64 2), .sc (.string { data := #[97] }), .sc (.string none8), .sc (.string { data := #[49] }), .sc (.string { data := #[50] })], [.sc (.int .i64 4), .sc (.int .i64 1), .sc (.int .i64 3), .sc (.string { data := #[97] }), .sc (.string none8), .sc (.string { data := #[49] }), .sc (.string { data := #[51] })], [.sc (.int .i64 3), .sc (.int .i64 1), .sc (.int .i64 4), .sc (.string { data := #[97] }), .sc (.string none8), .sc (.string none8), .sc (.string none8)], [.sc (.int .i64 2), .sc (.int .i64 1), .sc (.int .i64 2), .sc (.string { data := #[97] }), .sc (.string none8), .sc (.string none8), .sc (.string { data := #[57] })]] = (sv, rr) := by
    subst hGFsS6
    rw [hsv, hrr]
    exact Prod.ext rfl play_x
  cbv at ep
  (with_reducible refine regionF (T := fun _ => tabY [1017, 5004, 41, 45] [1,2]) (H := fun _ => [kn_of GFsS6, kn_play GFsS6, kn_replies GFsOw]) (tabY_ok _ _) hH hA hX ?_) <;> cbv
  simp only [e0, e1, e2, e3, e4, e5, e6, ep]
  refine ⟨by subst hGFsS6; exact z49, by subst hGFsS6; exact ⟨cmdsR, rfl, by decide⟩, by subst hA; rfl, by subst hA; rfl, by subst hA; show sv.length = 49 * 1; rw [hsv]; exact (z49.play _).len, ?_⟩
  (with_reducible refine regionF (T := fun _ => tabY [1017, 5004, 41, 45] [1,2]) (H := fun _ => [kn_of GFsS6, kn_play GFsS6, kn_replies GFsOw]) (tabY_ok _ _) hH hA hX ?_) <;> cbv
  have m1 : A.len rr = 8 := by subst hA; subst hrr; rfl
  have m2 : A.len [[.sc (.int .i64 0), .sc (.bool false), .sc (.string none8), .sc (.int .i64 1), .sc (.slice none 0 0)], [.sc (.int .i64 0), .sc (.bool false), .sc (.string none8), .sc (.int .i64 1), .sc (.slice none 0 0)], [.sc (.int .i64 0), .sc (.bool true), .sc (.string { data := #[49] }), .sc (.int .i64 1), .sc (.slice none 0 0)], [.sc (.int .i64 1), .sc (.bool false), .sc (.string none8), .sc (.int .i64 0), .sc (.slice none 0 0)], [.sc (.int .i64 0), .sc (.bool true), .sc (.string { data := #[49] }), .sc (.int .i64 2), .sc (.slice none 0 0)], [.sc (.int .i64 0), .sc (.bool false), .sc (.string { data := #[50] }), .sc (.int .i64 2), .sc (.slice none 0 0)], [.sc (.int .i64 0), .sc (.bool true), .sc (.string none8), .sc (.int .i64 2), .sc (.slice none 0 0)], [.sc (.int .i64 9), .sc (.bool false), .sc (.string none8), .sc (.int .i64 0), .sc (.slice none 0 0)]] = 8 := by subst hA; rfl
  have m3 : A.cmp .neq 8 8 = false := by subst hA; rfl
  cbv at m1
  cbv at m2
  cbv at m3
  simp only [m1, m2, m3]
  cbv
  refine pauseL hX (s' := [(2, .d (.slc 5 rr)), (3, .d (.slc 5 rr)), (4, .d (.sc (.int .i64 0)))]) (st' := [⟨30, sv, false, 0, true⟩]) (told_rows ⟨.inl rfl, .inr ⟨5, [[.sc (.int .i64 0), .sc (.bool false), .sc (.string none8), .sc (.int .i64 1), .sc (.slice none 0 0)], [.sc (.int .i64 0), .sc (.bool false), .sc (.string none8), .sc (.int .i64 1), .sc (.slice none 0 0)], [.sc (.int .i64 0), .sc (.bool true), .sc (.string { data := #[49] }), .sc (.int .i64 1), .sc (.slice none 0 0)], [.sc (.int .i64 1), .sc (.bool false), .sc (.string none8), .sc (.int .i64 0), .sc (.slice none 0 0)], [.sc (.int .i64 0), .sc (.bool true), .sc (.string { data := #[49] }), .sc (.int .i64 2), .sc (.slice none 0 0)], [.sc (.int .i64 0), .sc (.bool false), .sc (.string { data := #[50] }), .sc (.int .i64 2), .sc (.slice none 0 0)], [.sc (.int .i64 0), .sc (.bool true), .sc (.string none8), .sc (.int .i64 2), .sc (.slice none 0 0)], [.sc (.int .i64 9), .sc (.bool false), .sc (.string none8), .sc (.int .i64 0), .sc (.slice none 0 0)]], rfl, by rw [hrr]; rfl⟩, .inl rfl, trivial⟩) ?_
  have hrx : rr = repsX repsR := hrr
  clear hrr
  refine loopL (T := fun _ => tabY [1017, 5004, 41, 45] []) (H := fun _ => [kn_of GFsS6, kn_play GFsS6, kn_replies GFsOw]) (tabY_ok _ _) hH follows_mixed hA hX (fun i : Int => 0 ≤ i ∧ i ≤ 8)
    (fun i => [(2, .d (.slc 5 rr)), (3, .d (.slc 5 rr)), (4, .d (.sc (.int .i64 i)))]) (fun _ => [⟨30, sv, false, 0, true⟩])
    (fun i => 8 - i.toNat) 0 ?_ ?_ ?_
  · exact ⟨by omega, by omega⟩
  · exact told_less ⟨.inl rfl, .inl rfl, .inl rfl, trivial⟩
  rintro R i hR ⟨i0, i1⟩
  cbv
  simp only [m1]
  repeat' first
    | (refine part (fun h => ?_) (fun h => ?_) <;> try cbv)
    | (refine And.intro ?_ ?_)
  all_goals subst hA hX hW hR hGFsS6 hGFsOw
  all_goals try clear hH
  all_goals replace i0 : 0 ≤ i := i0
  all_goals replace i1 : i ≤ 8 := i1
  all_goals first
    | exact rfl
    | (show Region.lexB _ _ = true; kernel_rfl)
    | exact ret_v rfl rfl
    | (have h8 : i < 8 := by
         have h2 := ‹A0.cmp .lss i 8 = true›
         simpa [A0] using h2
       have hlt : i < repsR.length := h8
       have hrow := rrow hrx i0 hlt
       have hip : ∀ r ∈ repsR, isP r.pairs := by
         intro r hr
         have e : ∀ r ∈ repsR, r.pairs = [] := by decide
         rw [e r hr]
         exact isP.nil
       have hpi := hip _ (List.getElem_mem (show i.toNat < repsR.length by omega))
       generalize repsR[i.toNat]'(by omega) = r at hrow hpi
       have hl8 : (rr.length : Int) = 8 := by rw [hrx]; rfl
       have ei : IntKind.wrap .i64 (i + 1) = i + 1 := wrap_i64 (by unfold r64; omega)
       simp only [A0, nc, FsOw0, hrow, Reply.row, List.map_cons, List.map_nil, Nat.zero_add, List.getElem?_cons_zero, List.getElem?_cons_succ, List.drop_zero, List.take_succ_cons, List.take_zero, List.length_cons, List.length_nil] at *
       first
         | (refine ⟨by omega, by omega⟩)
         | exact hpi
         | (simp; done)
         | (refine ⟨i + 1, ⟨by omega, by omega⟩, by omega, told_less ?_⟩
            simp [toldP, getS, ei]
            done)
         | (exfalso
            have h2 := ‹(!repliesX _ _) = true›
            rw [repliesX_true rfl] at h2
            exact absurd h2 (by decide)))
    | fail
def kn_runs (F : FsS7) : FuncId × (List DV → RV) := (3, fun args => match args with
  | [] => some ([], boolD F.runs)
  | _ => none)
theorem ok_runs (args : List DV) (cs : List Prop) (r : DV) (h : (kn_runs FsS70).2 args = some (cs, r)) (hc : allP cs True) : FnV Try.prog 3 args r ∧ closedL 0 args = true := by
  unfold kn_runs at h
  simp only at h
  split at h
  · cases h; exact ⟨v_runs, rfl⟩
  · cases h
end Go.Proofs.Ytijknhdaipnjaaa
namespace Go.Proofs.Ytijknhdaipnjaaa
open Go.RowKit
set_option linter.all false
set_option maxHeartbeats 4000000
def shortX (xs : List (List PD)) : List (List PD) := if 60 < xs.length then xs.take 60 else xs
theorem isC.short {xs : List (List PD)} (h : isC xs) : isC (shortX xs) := by
  unfold shortX
  split
  · obtain ⟨l, rfl, hl⟩ := h
    exact ⟨l.take 60, by simp [cmdsX], by rw [List.length_take]; omega⟩
  · exact h
theorem short_len (xs : List (List PD)) : (shortX xs).length ≤ 60 := by
  unfold shortX
  split
  · rw [List.length_take]; omega
  · omega

structure FsSh where
  short : List (List PD) → List (List PD)
  isC : List (List PD) → Prop
def FsSh0 : FsSh where
  short := shortX
  isC := isC
set_option maxRecDepth 100000 in
theorem v_short (xs : List (List PD)) (hp0 : FsSh0.isC xs) : FnV Try.prog 14 [.d (.slc 7 xs)] (.d (.slc 7 (shortX xs))) := by
  refine FnD_cbv (T := fun _ => tabY [] []) (H := fun _ => []) (tabY_ok _ _) noK_ok follows_mixed Try.func14 rfl Try.ntmps14 (by simp) fun A X W hA hX hW => ?_
  cbv
  obtain ⟨l, hxs, hl⟩ := hp0
  have hlen : xs.length = l.length := by rw [hxs]; simp [cmdsX]
  repeat' first
    | (refine part (fun h => ?_) (fun h => ?_) <;> try cbv)
    | (refine And.intro ?_ ?_)
  all_goals subst hA hX hW
  all_goals simp only [A0, nc, decide_eq_true_eq, decide_eq_false_iff_not] at *
  all_goals first
    | omega
    | (refine ret_v ?_ rfl
       unfold shortX
       first
         | (rw [if_pos (by omega)]; rfl)
         | (rw [if_neg (by omega)]))
    | fail
def kn_short (F : FsSh) : FuncId × (List DV → RV) := (14, fun args => match args with
  | [.d (.slc 7 xs)] => some ([F.isC xs], .d (.slc 7 (F.short xs)))
  | [.d (.sc (.slice none 0 0))] => some ([F.isC []], .d (.slc 7 (F.short [])))
  | _ => none)
theorem ok_short (args : List DV) (cs : List Prop) (r : DV) (h : (kn_short FsSh0).2 args = some (cs, r)) (hc : allP cs True) : FnV Try.prog 14 args r ∧ closedL 0 args = true := by
  unfold kn_short at h
  simp only at h
  split at h
  · cases h; exact ⟨v_short _ hc.1, rfl⟩
  · cases h; exact ⟨FnP.nils (v_short [] hc.1) ⟨.inr ⟨rfl, _, rfl⟩, trivial⟩, rfl⟩
  · cases h
theorem play0 {xs : List (List PD)} (h : isC xs) : ∃ ps os rs, playX Z49 (shortX xs) = (cellsS ps os, repsX rs) ∧ okSt 60 ps os := by
  obtain ⟨l, e, _⟩ := h.short
  have hl := short_len xs
  have hz : upS Z49 = cellsS [] (List.replicate 8 ⟨0, zeroRep⟩) := rfl
  have h60 : l.length ≤ 60 := by rw [e] at hl; simpa [cmdsX] using hl
  obtain ⟨qs, rs, e2, h2⟩ := playL_st l [] zero_st (by decide) (by omega)
  refine ⟨qs, rs, (playL (upS Z49) l []).2, ?_, h2.mono (by omega)⟩
  unfold playX
  rw [e, cmdsOf_X, hz, e2]
/-- The head of a state's cells. -/
theorem cells_head {k : Int} {ps : List Pair} {os : List Owner} (h : okSt k ps os) : ∃ cs, cellsS ps os = .d (.slc 3 (pairsX ps)) :: .d (.sc (.int .i64 (ownAt os 1).seq)) :: cs := by
  obtain ⟨a, b, c, d, e, f, g, i, rfl⟩ := list8 h.2.1
  exact ⟨_, rfl⟩
theorem reads_ok {xs : List (List PD)} (h : isC xs) (key lo hi : ByteArray) : ∃ ps sq cs rr, playX Z49 (shortX xs) = (.d (.slc 3 (pairsX ps)) :: .d (.sc (.int .i64 sq)) :: cs, rr) ∧ isP (pairsX ps) ∧ isSt (.d (.slc 3 (pairsX ps)) :: .d (.sc (.int .i64 sq)) :: cs) ∧
    (∃ p1 s1 c1 r1, applyS (.d (.slc 3 (pairsX ps)) :: .d (.sc (.int .i64 sq)) :: cs) ⟨1, 1, IntKind.wrap .i64 (sq + 1), key, none8, none8, none8⟩ = (.d (.slc 3 p1) :: .d (.sc (.int .i64 s1)) :: c1, r1) ∧ isP p1 ∧ isSt (.d (.slc 3 p1) :: .d (.sc (.int .i64 s1)) :: c1) ∧
      (rightC ⟨1, 1, IntKind.wrap .i64 (sq + 1), key, none8, none8, none8⟩ = true → p1 = pairsX ps ∧ r1 = ⟨0, (getP (pairsX ps) key).2, (getP (pairsX ps) key).1.value, (getP (pairsX ps) key).1.version, []⟩)) ∧
    (∃ p2 s2 c2 r2, applyS (.d (.slc 3 (pairsX ps)) :: .d (.sc (.int .i64 sq)) :: cs) ⟨5, 1, IntKind.wrap .i64 (sq + 1), lo, hi, none8, none8⟩ = (.d (.slc 3 p2) :: .d (.sc (.int .i64 s2)) :: c2, r2) ∧ isP p2 ∧ isP r2.pairs ∧ isSt (.d (.slc 3 p2) :: .d (.sc (.int .i64 s2)) :: c2) ∧
      (rightC ⟨5, 1, IntKind.wrap .i64 (sq + 1), lo, hi, none8, none8⟩ = true → p2 = pairsX ps ∧ s2 = IntKind.wrap .i64 (sq + 1) ∧ r2 = ⟨0, (rangeX (pairsX ps) ⟨lo, hi⟩).2, none8, 0, (rangeX (pairsX ps) ⟨lo, hi⟩).1⟩)) := by
  obtain ⟨ps, os, rs, e, hok⟩ := play0 h
  obtain ⟨cs, ec⟩ := cells_head hok
  have hseq := hok.2.2 _ (ownAt_mem hok.2.1 (client := 1) (by decide) (by decide))
  have hw : IntKind.wrap .i64 ((ownAt os 1).seq + 1) = (ownAt os 1).seq + 1 := wrap_i64 (by unfold r64; have := hseq.1; have := hseq.2.1; omega)
  refine ⟨ps, (ownAt os 1).seq, cs, repsX rs, by rw [e, ec], hok.1.isP, by rw [← ec]; exact hok.is, ?_, ?_⟩
  · obtain ⟨qs, ro, ea, hb⟩ := apply_ok hok (by decide) (by decide) ⟨1, 1, IntKind.wrap .i64 ((ownAt os 1).seq + 1), key, none8, none8, none8⟩
    obtain ⟨ds, ed⟩ := cells_head hb
    rw [ed] at ea
    refine ⟨pairsX qs, (ownAt ro 1).seq, ds, (applyS (cellsS ps os) ⟨1, 1, IntKind.wrap .i64 ((ownAt os 1).seq + 1), key, none8, none8, none8⟩).2, ?_, hb.1.isP, by rw [← ed]; exact hb.is, fun hr => ?_⟩
    · rw [← ec]; exact Prod.ext ea rfl
    · have hz : ¬ (⟨1, 1, IntKind.wrap .i64 ((ownAt os 1).seq + 1), key, none8, none8, none8⟩ : Cmd) = .zero := fun e => by injection e with e1; exact absurd e1 (by decide)
      rcases apply_cases hok (by decide) (by decide) ⟨1, 1, IntKind.wrap .i64 ((ownAt os 1).seq + 1), key, none8, none8, none8⟩ with ⟨k1, _⟩ | ⟨_, k2, _⟩ | ⟨_, _, k3, _⟩ | ⟨_, _, k3, _⟩ | ⟨_, _, k3, q2, r2, k4, _, _, k6, k5⟩
      · exact absurd k1 hz
      · rw [hr] at k2; cases k2
      · rw [hw] at k3
        replace k3 : (ownAt os 1).seq + 1 = (ownAt os 1).seq := k3
        omega
      · rw [hw] at k3
        replace k3 : (ownAt os 1).seq + 1 < (ownAt os 1).seq := k3
        omega
      · have hq : q2 = ps := k6 rfl
        subst hq
        have hd : doneX (pairsX q2) ⟨1, 1, IntKind.wrap .i64 ((ownAt os 1).seq + 1), key, none8, none8, none8⟩ = (pairsX q2, ⟨0, (getP (pairsX q2) key).2, (getP (pairsX q2) key).1.value, (getP (pairsX q2) key).1.version, []⟩) := rfl
        rw [hd] at k4
        injection k4 with k7 k8
        rw [k5] at ea ⊢
        refine ⟨?_, k8.symm⟩
        have e9 : cellsS q2 (os.set ((1 : Int) - 1).toNat ⟨IntKind.wrap .i64 ((ownAt os 1).seq + 1), r2⟩) = .d (.slc 3 (pairsX qs)) :: .d (.sc (.int .i64 (ownAt ro 1).seq)) :: ds := ea
        have e10 := List.head_eq_of_cons_eq e9
        injection e10 with e11
        injection e11 with _ e12
        exact e12.symm
  · obtain ⟨qs, ro, ea, hb⟩ := apply_ok hok (by decide) (by decide) ⟨5, 1, IntKind.wrap .i64 ((ownAt os 1).seq + 1), lo, hi, none8, none8⟩
    obtain ⟨ds, ed⟩ := cells_head hb
    rw [ed] at ea
    refine ⟨pairsX qs, (ownAt ro 1).seq, ds, (applyS (cellsS ps os) ⟨5, 1, IntKind.wrap .i64 ((ownAt os 1).seq + 1), lo, hi, none8, none8⟩).2, ?_, hb.1.isP, hok.is.rep _, by rw [← ed]; exact hb.is, fun hr => ?_⟩
    · rw [← ec]; exact Prod.ext ea rfl
    · have hz : ¬ (⟨5, 1, IntKind.wrap .i64 ((ownAt os 1).seq + 1), lo, hi, none8, none8⟩ : Cmd) = .zero := fun e => by injection e with e1; exact absurd e1 (by decide)
      rcases apply_cases hok (by decide) (by decide) ⟨5, 1, IntKind.wrap .i64 ((ownAt os 1).seq + 1), lo, hi, none8, none8⟩ with ⟨k1, _⟩ | ⟨_, k2, _⟩ | ⟨_, _, k3, _⟩ | ⟨_, _, k3, _⟩ | ⟨_, _, k3, q2, r2, k4, _, _, k6, k5⟩
      · exact absurd k1 hz
      · rw [hr] at k2; cases k2
      · rw [hw] at k3
        replace k3 : (ownAt os 1).seq + 1 = (ownAt os 1).seq := k3
        omega
      · rw [hw] at k3
        replace k3 : (ownAt os 1).seq + 1 < (ownAt os 1).seq := k3
        omega
      · have hq : q2 = ps := k6 rfl
        subst hq
        have hd : doneX (pairsX q2) ⟨5, 1, IntKind.wrap .i64 ((ownAt os 1).seq + 1), lo, hi, none8, none8⟩ = (pairsX q2, ⟨0, (rangeX (pairsX q2) ⟨lo, hi⟩).2, none8, 0, (rangeX (pairsX q2) ⟨lo, hi⟩).1⟩) := rfl
        rw [hd] at k4
        injection k4 with k7 k8
        rw [k5] at ea ⊢
        obtain ⟨o0, o1, o2, o3, o4, o5, o6, o7, eos⟩ := list8 hok.2.1
        subst eos
        have e9 : (.d (.slc 3 (pairsX q2)) :: .d (.sc (.int .i64 (IntKind.wrap .i64 ((ownAt [o0, o1, o2, o3, o4, o5, o6, o7] 1).seq + 1)))) :: _ : List DV) = .d (.slc 3 (pairsX qs)) :: .d (.sc (.int .i64 (ownAt ro 1).seq)) :: ds := ea
        have e10 := List.head_eq_of_cons_eq e9
        have e13 := List.head_eq_of_cons_eq (List.tail_eq_of_cons_eq e9)
        injection e10 with e11
        injection e11 with _ e12
        injection e13 with e14
        injection e14 with e15
        injection e15 with _ e16
        exact ⟨e12.symm, e16.symm, k8.symm⟩

end Go.Proofs.Ytijknhdaipnjaaa
namespace Go.Proofs.Ytijknhdaipnjaaa
open Go.RowKit
set_option linter.all false
set_option maxHeartbeats 4000000
theorem sameX_refl (xs : List (List PD)) : sameX xs xs = true := by simp [sameX]

structure FsS9 where
  isC : List (List PD) → Prop
def FsS90 : FsS9 where
  isC := isC
set_option maxRecDepth 100000 in
theorem v_reads (xs : List (List PD)) (key : ByteArray) (lo : ByteArray) (hi : ByteArray) (hp0 : FsS90.isC xs) : FnV Try.prog 4 [.d (.slc 7 xs), strD key, strD lo, strD hi] (boolD (((fun (_ : List (List PD)) (_ _ _ : ByteArray) => true) xs key lo hi))) := by
  obtain ⟨ps, sq, cs, rr, ep, hps, hst, ⟨p1, s1, c1, r1, ea, h1p, h1s, hf1⟩, ⟨p2, s2, c2, r2, eb, h2p, h2r, h2s, hf2⟩⟩ := reads_ok hp0 key lo hi
  obtain ⟨nx, hnx⟩ : ∃ nx, nx = IntKind.wrap .i64 (sq + 1) := ⟨_, rfl⟩
  obtain ⟨x0, hx0⟩ : ∃ x0, x0 = pairsX ps := ⟨_, rfl⟩
  rw [← hnx] at ea eb hf1 hf2
  rw [← hx0] at ep hps hst ea hf1 eb hf2
  have hsh := hp0.short
  have hl1 := h1s.len
  have hl2 := h2s.len
  have hl0 := hst.len
  obtain ⟨w1, f1, v1, n1, q1⟩ := r1
  obtain ⟨w2, f2, v2, n2, q2⟩ := r2
  obtain ⟨GFsSh, hGFsSh⟩ : ∃ F, F = FsSh0 := ⟨_, rfl⟩
  obtain ⟨GFsS6, hGFsS6⟩ : ∃ F, F = FsS60 := ⟨_, rfl⟩
  obtain ⟨GFs5, hGFs5⟩ : ∃ F, F = Fs50 := ⟨_, rfl⟩
  obtain ⟨GFsS5, hGFsS5⟩ : ∃ F, F = FsS50 := ⟨_, rfl⟩
  obtain ⟨GFsE, hGFsE⟩ : ∃ F, F = FsE0 := ⟨_, rfl⟩
  obtain ⟨GFsF, hGFsF⟩ : ∃ F, F = FsF0 := ⟨_, rfl⟩
  obtain ⟨GFsS, hGFsS⟩ : ∃ F, F = FsS0 := ⟨_, rfl⟩
  obtain ⟨GFsS7, hGFsS7⟩ : ∃ F, F = FsS70 := ⟨_, rfl⟩
  have hH : SoundK Try.prog [kn_short GFsSh, kn_play GFsS6, kn_cright GFs5, kn_apply GFsS5, kn_getR GFsE, kn_rangeR GFsF, kn_same GFsS, kn_runs GFsS7] := by subst hGFsSh hGFsS6 hGFs5 hGFsS5 hGFsE hGFsF hGFsS hGFsS7; exact orK_ok ok_short (orK_ok ok_play (orK_ok ok_cright (orK_ok ok_apply (orK_ok ok_getR (orK_ok ok_rangeR (orK_ok ok_same (orK_ok ok_runs noK_ok)))))))
  refine FnD_cbv (T := fun _ => tabY [1027, 1009, 1054, 1060, 5003, 5004] [2, 8, 9]) (H := fun _ => [kn_short GFsSh, kn_play GFsS6, kn_cright GFs5, kn_apply GFsS5, kn_getR GFsE, kn_rangeR GFsF, kn_same GFsS, kn_runs GFsS7]) (tabY_ok _ _) hH follows_mixed Try.func4 rfl Try.ntmps4 (by simp) fun A X W hA hX hW => ?_
  cbv
  have e0 : A.bin .add .i64 sq 1 = nx := by subst hA; exact hnx.symm
  have e1 : GFsS6.play Z49 (GFsSh.short xs) = ((.d (.slc 3 x0) :: .d (.sc (.int .i64 sq)) :: cs), rr) := by subst hGFsS6 hGFsSh; exact ep
  have e2 : GFsS5.apply (.d (.slc 3 x0) :: .d (.sc (.int .i64 sq)) :: cs) ⟨1, 1, nx, key, none8, none8, none8⟩ = (.d (.slc 3 p1) :: .d (.sc (.int .i64 s1)) :: c1, ⟨w1, f1, v1, n1, q1⟩) := by subst hGFsS5; exact ea
  have e3 : GFsS5.apply (.d (.slc 3 x0) :: .d (.sc (.int .i64 sq)) :: cs) ⟨5, 1, nx, lo, hi, none8, none8⟩ = (.d (.slc 3 p2) :: .d (.sc (.int .i64 s2)) :: c2, ⟨w2, f2, v2, n2, q2⟩) := by subst hGFsS5; exact eb
  cbv at e0
  cbv at e1
  cbv at e2
  cbv at e3
  simp only [e1]
  repeat' first
    | (refine part (fun h => ?_) (fun h => ?_) <;> try cbv)
    | (refine And.intro ?_ ?_)
    | (simp only [e0, e2, e3]; (with_reducible refine goL (T := fun _ => tabY [1027, 1009, 1054, 1060, 5003, 5004] []) (H := fun _ => [kn_short GFsSh, kn_play GFsS6, kn_cright GFs5, kn_apply GFsS5, kn_getR GFsE, kn_rangeR GFsF, kn_same GFsS, kn_runs GFsS7]) (tabY_ok _ _) hH follows_mixed hA hX ?_) <;> cbv)
    | ((with_reducible refine goL (T := fun _ => tabY [1027, 1009, 1054, 1060, 5003, 5004] []) (H := fun _ => [kn_short GFsSh, kn_play GFsS6, kn_cright GFs5, kn_apply GFsS5, kn_getR GFsE, kn_rangeR GFsF, kn_same GFsS, kn_runs GFsS7]) (tabY_ok _ _) hH follows_mixed hA hX ?_) <;> cbv)
  all_goals subst hA hX hW hGFsSh hGFsS6 hGFs5 hGFsS5 hGFsE hGFsF hGFsS hGFsS7
  all_goals clear hH
  all_goals first
    | exact rfl
    | (show Region.lexB _ _ = true; kernel_rfl)
    | (show turnsB _ = true; kernel_rfl)
    | exact hp0
    | exact hsh
    | exact z49
    | exact hst
    | exact hps
    | (show List.length _ = 49 * 1; exact hl0)
    | (show List.length _ = 49 * 1; rw [e2]; exact hl1)
    | (show List.length _ = 49 * 1; rw [e3]; exact hl2)
    | (have e4 : A0.bin .add .i64 sq 1 = nx := hnx.symm
       show List.length (applyS _ ⟨1, 1, A0.bin .add .i64 sq 1, key, none8, none8, none8⟩).1 = 49 * 1
       rw [e4, ea]
       exact hl1)
    | (show List.length (applyS _ ⟨5, 1, nx, lo, hi, none8, none8⟩).1 = 49 * 1
       rw [eb]
       exact hl2)
    | (intro hq; exact hq)
    | (intro hq; simpa [A0] using hq)
    | (intro _; first | exact trivial | exact rfl | exact hps | exact h1p | exact h2p | exact h2r | exact range_isP _ _)
    | (refine ret_v ?_ rfl; rfl)
    | (have hc1 : rightC ⟨1, 1, nx, key, none8, none8, none8⟩ = true ∧ rightC ⟨5, 1, nx, lo, hi, none8, none8⟩ = true := by
         have h2 := h
         simp only [A0, Fs50, ← hnx] at h2
         cases hc1 : rightC ⟨1, 1, nx, key, none8, none8, none8⟩ <;> cases hc2 : rightC ⟨5, 1, nx, lo, hi, none8, none8⟩ <;> simp only [hc1, hc2] at h2 <;> first
           | exact ⟨rfl, rfl⟩
           | exact absurd h2 (by decide)
       obtain ⟨hp1, hr1⟩ := hf1 hc1.1
       obtain ⟨hp2, hs2, hr2⟩ := hf2 hc1.2
       injection hr1 with j1 j2 j3 j4 j5
       injection hr2 with j6 j7 j8 j9 j10
       refine ret_v (congrArg boolD ?_) rfl
       simp only [A0, nc, FsSh0, FsS60, Fs50, FsS50, FsE0, FsF0, FsS0, FsS70, hp1, hp2, hs2, j2, j3, j4, j7, j10, sameX_refl, decide_true, cond_true]
       done)
    | fail
end Go.Proofs.Ytijknhdaipnjaaa
