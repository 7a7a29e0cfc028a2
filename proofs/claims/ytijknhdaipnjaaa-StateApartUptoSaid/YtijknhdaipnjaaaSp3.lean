/- Two commands that do not clash may be done in either order. No condition. -/
import Derived.Test.YtijknhdaipnjaaaSp2
namespace Go.Proofs.Ytijknhdaipnjaaa
open Go.RowKit
set_option linter.all false
theorem under_snoc (x y : ByteArray) : under x (y ++ { data := #[0] }) = !ltb y x := by
  have h : ¬ (y ++ { data := #[0] } : ByteArray) = { data := #[] } := by
    intro e
    have h2 := congrArg ByteArray.size e
    rw [ByteArray.size_append] at h2
    exact absurd h2 (by show ¬ (y.size + 1 = 0); omega)
  simp [under, ltb_snoc, h]
theorem meets_comm (a b : Span) : meets a b = meets b a := by
  simp only [meets]
  cases emptyS a <;> cases emptyS b <;> simp [Bool.and_comm]
theorem meets_key (key lo hi : ByteArray) : meets (spanOf key) ⟨lo, hi⟩ = (!ltb key lo && (decide (hi = { data := #[] }) || ltb key hi)) := by
  simp only [meets, emptyS, spanOf, under_snoc, ltb_irrefl, Bool.not_false, Bool.not_not, Bool.true_and]
  simp only [under]
  by_cases h1 : hi = none8
  · subst h1; simp
  · simp only [h1, decide_false, Bool.false_or]
    cases hk : ltb key hi with
    | false => simp
    | true =>
      cases hl : ltb key lo with
      | true => simp
      | false =>
        have : ltb lo hi = true := by
          have ht := ltb_total key lo
          rw [hl] at ht
          simp only [Bool.not_false, Bool.true_eq, Bool.or_eq_true, decide_eq_true_eq] at ht
          rcases ht with ht | ht
          · exact ltb_trans ht hk
          · subst ht; exact hk
        simp [this]

theorem meets_keys (a b : ByteArray) : meets (spanOf a) (spanOf b) = decide (a = b) := by
  have e : spanOf b = ⟨b, b ++ { data := #[0] }⟩ := rfl
  rw [e, meets_key]
  have hne : ¬ b ++ { data := #[0] } = ({ data := #[] } : ByteArray) := fun h => by
    have := congrArg ByteArray.size h
    simp at this
    have e2 : ({ data := #[0] } : ByteArray).size = 1 := rfl
    have e3 : ({ data := #[] } : ByteArray).size = 0 := rfl
    omega
  simp only [hne, decide_false, Bool.false_or, ltb_snoc]
  by_cases h : a = b
  · subst h; simp [ltb_irrefl]
  · cases h1 : ltb a b with
    | true => simp [h]
    | false =>
      rw [ltb_not h1 h]
      simp [h]
theorem srt_ext : ∀ {ps qs : List Pair}, Srt ps → Srt qs → (∀ j, look ps j = look qs j) → ps = qs
  | [], [], _, _, _ => rfl
  | [], q :: qs, _, _, h => by
      have := h q.key
      rw [look_cons_eq] at this
      cases this
  | p :: ps, [], _, _, h => by
      have := h p.key
      rw [look_cons_eq] at this
      cases this
  | p :: ps, q :: qs, hp, hq, h => by
      have hp' := hp
      have hq' := hq
      unfold Srt at hp' hq'
      rw [List.pairwise_cons] at hp' hq'
      have h1 := h p.key
      have h2 := h q.key
      rw [look_cons_eq] at h1 h2
      have m1 := look_mem h1.symm
      have m2 := look_mem h2
      have hk : p.key = q.key := by
        rcases List.mem_cons.1 m1.1 with e | e
        · rw [e]
        · rcases List.mem_cons.1 m2.1 with e2 | e2
          · rw [e2]
          · have a1 := hq'.1 p e
            have a2 := hp'.1 q e2
            rw [ltb_asymm a1] at a2
            cases a2
      have hpq : p = q := by
        rw [hk, look_cons_eq] at h1
        exact Option.some.inj h1
      subst hpq
      congr 1
      refine srt_ext hp'.2 hq'.2 fun j => ?_
      by_cases hj : p.key = j
      · subst hj
        rw [look_none fun x hx => (ltb_ne (hp'.1 x hx)).symm, look_none fun x hx => (ltb_ne (hq'.1 x hx)).symm]
      · have := h j
        rwa [look_cons_ne hj, look_cons_ne hj] at this
theorem look_filter {ps : List Pair} (hs : Srt ps) (P : ByteArray → Bool) (j : ByteArray) : look (ps.filter fun p => P p.key) j = if P j = true then look ps j else none := by
  induction ps with
  | nil => simp [look]
  | cons p ps ih =>
    have hs' := hs
    unfold Srt at hs'
    rw [List.pairwise_cons] at hs'
    have ih := ih hs'.2
    by_cases hj : p.key = j
    · subst hj
      by_cases hP : P p.key = true
      · rw [List.filter_cons_of_pos (by simpa using hP), look_cons_eq, look_cons_eq, if_pos hP]
      · rw [List.filter_cons_of_neg (by simpa using hP), if_neg hP]
        exact look_none fun x hx => (ltb_ne (hs'.1 x ((List.mem_filter.1 hx).1))).symm
    · rw [look_cons_ne hj]
      by_cases hP : P p.key = true
      · rw [List.filter_cons_of_pos (by simpa using hP), look_cons_ne hj]
        exact ih
      · rw [List.filter_cons_of_neg (by simpa using hP)]
        exact ih
theorem filter_ext {ps qs : List Pair} (hp : Srt ps) (hq : Srt qs) (P : ByteArray → Bool) (h : ∀ j, P j = true → look ps j = look qs j) : ps.filter (fun p => P p.key) = qs.filter (fun p => P p.key) := by
  refine srt_ext (hp.sub List.filter_sublist) (hq.sub List.filter_sublist) fun j => ?_
  rw [look_filter hp, look_filter hq]
  by_cases hP : P j = true
  · rw [if_pos hP, if_pos hP, h j hP]
  · rw [if_neg hP, if_neg hP]
/-- What stands under a writer's key behind it. -/
def newM (c : Cmd) (o : Option Pair) : Option Pair :=
  if c.kind = 2 then some ⟨c.key, c.val, match o with | some p => p.version + 1 | none => 1⟩
  else if c.kind = 3 then none
  else if c.kind = 4 then (match o with
    | some p => if p.value = c.old then some ⟨c.key, c.val, p.version + 1⟩ else some p
    | none => none)
  else o
theorem put_full {xs : List (List PD)} (h : xs.length < 32) (key value : ByteArray) : (putX xs key value).2 = 0 := by
  unfold putX
  split
  · rfl
  · rw [if_neg (by omega)]
theorem putX_len1 (xs : List (List PD)) (key value : ByteArray) : (putX xs key value).1.length ≤ xs.length + 1 := by
  unfold putX
  split
  · rw [setP_len]; omega
  · split
    · simp
    · simp only [newP, List.length_append, List.length_take, List.length_drop, List.length_singleton]
      omega
theorem delX_len1 (xs : List (List PD)) (key : ByteArray) : (delX xs key).1.length ≤ xs.length := by
  unfold delX
  split
  · simp only [delP, List.length_append, List.length_take, List.length_drop]
    omega
  · exact Nat.le_refl _
theorem gotL_some {ps : List Pair} {key : ByteArray} {p : Pair} (h : look ps key = some p) : gotL ps key = (p, true) := by simp [gotL, h]
theorem gotL_none {ps : List Pair} {key : ByteArray} (h : look ps key = none) : gotL ps key = (⟨none8, none8, 0⟩, false) := by simp [gotL, h]
/-- What a command does to pairs, seen by keys. -/
theorem done_act {k : Int} {ps : List Pair} (h : okP k ps) (hk : 0 ≤ k) (hk2 : k ≤ 4611686018427387904) (hl : ps.length < 32) {c : Cmd} (hc : rightC c = true) (hz : ¬ c = .zero) :
    ∃ qs, (doneX (pairsX ps) c).1 = pairsX qs ∧ okP (k + 1) qs ∧ qs.length ≤ ps.length + 1 ∧ (∀ j, j ≠ c.key → look qs j = look ps j) ∧ look qs c.key = newM c (look ps c.key) := by
  obtain ⟨f1, f2, f3, f4, f5, f6, f7⟩ := right_facts hc hz
  have hm : okP (k + 1) ps := h.mono (by omega)
  have hpl : (pairsX ps).length < 32 := by rw [pairsX_length]; exact hl
  have hput : ∀ {qs : List Pair}, (putX (pairsX ps) c.key c.val).1 = pairsX qs → qs.length ≤ ps.length + 1 := fun e => by
    have := putX_len1 (pairsX ps) c.key c.val
    rw [e, pairsX_length, pairsX_length] at this
    exact this
  by_cases k1 : c.kind = 1
  · refine ⟨ps, ?_, hm, by omega, fun _ _ => rfl, ?_⟩
    · simp only [doneX, k1, decide_true, cond_true]
    · simp [newM, k1]
  by_cases k2 : c.kind = 2
  · simp only [doneX, k2, decide_true, cond_true, show decide ((2 : Int) = 1) = false from rfl, cond_false, put_full hpl, Bool.not_true]
    obtain ⟨qs, e, hq, hj, hn⟩ := put_ok h (f7 (by omega)) f4 f6 hk hk2 (put_full hpl c.key c.val)
    exact ⟨qs, e, hq, hput e, hj, by rw [hn]; simp [newM, k2]; cases look ps c.key <;> rfl⟩
  by_cases k3 : c.kind = 3
  · simp only [doneX, k3, decide_true, cond_true, show decide ((3 : Int) = 1) = false from rfl, show decide ((3 : Int) = 2) = false from rfl, cond_false]
    obtain ⟨qs, e, hq, hj, hn⟩ := del_ok h c.key
    refine ⟨qs, e, hq.mono (by omega), ?_, hj, by rw [hn]; simp [newM, k3]⟩
    have := delX_len1 (pairsX ps) c.key
    rw [e, pairsX_length, pairsX_length] at this
    omega
  by_cases k4 : c.kind = 4
  · simp only [doneX, k4, decide_true, cond_true, show decide ((4 : Int) = 1) = false from rfl, show decide ((4 : Int) = 2) = false from rfl, show decide ((4 : Int) = 3) = false from rfl, cond_false]
    rw [get_look h.1]
    cases hlk : look ps c.key with
    | none =>
      rw [gotL_none hlk]
      simp only [Bool.not_false, cond_true]
      exact ⟨ps, rfl, hm, by omega, fun _ _ => rfl, by simp [newM, k4, hlk]⟩
    | some p =>
      rw [gotL_some hlk]
      by_cases ho : p.value = c.old
      · simp only [ho, decide_true, Bool.not_true, cond_false]
        obtain ⟨qs, e, hq, hj, hn⟩ := put_ok h (f7 (by omega)) f4 f6 hk hk2 (put_full hpl c.key c.val)
        refine ⟨qs, e, hq, hput e, hj, ?_⟩
        rw [hn]
        simp [newM, k4, ho, hlk]
      · simp only [ho, decide_false, Bool.not_true, Bool.not_false, cond_false, cond_true]
        refine ⟨ps, rfl, hm, by omega, fun _ _ => rfl, ?_⟩
        simp [newM, k4, ho, hlk]
  · have k5 : c.kind = 5 := by omega
    refine ⟨ps, ?_, hm, by omega, fun _ _ => rfl, ?_⟩
    · simp only [doneX, k5, show decide ((5 : Int) = 1) = false from rfl, show decide ((5 : Int) = 2) = false from rfl, show decide ((5 : Int) = 3) = false from rfl, show decide ((5 : Int) = 4) = false from rfl, cond_false]
    · simp [newM, k5]
/-- A reply hangs on what stands under the key, or in the span. -/
theorem rep_congr {ps qs : List Pair} (hp : Srt ps) (hq : Srt qs) (lp : ps.length < 32) (lq : qs.length < 32) (c : Cmd) (h1 : c.kind ≠ 5 → look ps c.key = look qs c.key) (h5 : c.kind = 5 → ∀ j, hasS ⟨c.key, c.fin⟩ j = true → look ps j = look qs j) (hk : 1 ≤ c.kind ∧ c.kind ≤ 5) :
    (doneX (pairsX ps) c).2 = (doneX (pairsX qs) c).2 := by
  have wp := put_full (xs := pairsX ps) (by rw [pairsX_length]; exact lp) c.key c.val
  have wq := put_full (xs := pairsX qs) (by rw [pairsX_length]; exact lq) c.key c.val
  by_cases k5 : c.kind = 5
  · have e := filter_ext hp hq (hasS ⟨c.key, c.fin⟩) (h5 k5)
    simp only [doneX, k5, show decide ((5 : Int) = 1) = false from rfl, show decide ((5 : Int) = 2) = false from rfl, show decide ((5 : Int) = 3) = false from rfl, show decide ((5 : Int) = 4) = false from rfl, cond_false, range_eq, e]
  · have e : gotL ps c.key = gotL qs c.key := by simp only [gotL, h1 k5]
    have kk : c.kind = 1 ∨ c.kind = 2 ∨ c.kind = 3 ∨ c.kind = 4 := by omega
    rcases kk with kk | kk | kk | kk <;> simp only [doneX, kk, wp, wq, get_look hp, get_look hq, e, decide_true, cond_true, cond_false, Bool.not_true, show decide ((2 : Int) = 1) = false from rfl, show decide ((3 : Int) = 1) = false from rfl, show decide ((3 : Int) = 2) = false from rfl, show decide ((4 : Int) = 1) = false from rfl, show decide ((4 : Int) = 2) = false from rfl, show decide ((4 : Int) = 3) = false from rfl]
    cases (bif !(gotL qs c.key).2 then true else !decide ((gotL qs c.key).1.value = c.old)) <;> rfl
/-- What a command without clash says of another one's key. -/
theorem apart_key {a b : Cmd} (ha : rightC a = true) (za : ¬ a = .zero) (hb : rightC b = true) (zb : ¬ b = .zero) (h : clashC a b = false) : a.client ≠ b.client ∧ (writesC a = true → (b.kind ≠ 5 → b.key ≠ a.key) ∧ (b.kind = 5 → hasS ⟨b.key, b.fin⟩ a.key = false)) := by
  obtain ⟨a1, _⟩ := right_facts ha za
  obtain ⟨b1, _⟩ := right_facts hb zb
  have ka : (keysC a).2 = true := by
    unfold keysC
    split
    · rfl
    · split
      · rfl
      · omega
  have kb : (keysC b).2 = true := by
    unfold keysC
    split
    · rfl
    · split
      · rfl
      · omega
  unfold clashC at h
  rw [ka, kb] at h
  simp only [Bool.true_and, Bool.or_eq_false_iff, decide_eq_false_iff_not] at h
  refine ⟨h.1, fun hw => ?_⟩
  have h2 := h.2
  rw [hw, Bool.true_or, Bool.true_and] at h2
  have hka : a.kind = 1 ∨ a.kind = 2 ∨ a.kind = 3 ∨ a.kind = 4 := by
    simp only [writesC, Bool.or_eq_true, decide_eq_true_eq] at hw
    omega
  have sa : (keysC a).1 = spanOf a.key := by unfold keysC; rw [if_pos hka]
  rw [sa] at h2
  refine ⟨fun hb5 he => ?_, fun hb5 => ?_⟩
  · have sb : (keysC b).1 = spanOf b.key := by unfold keysC; rw [if_pos (by omega)]
    rw [sb, meets_keys, he] at h2
    simp at h2
  · have sb : (keysC b).1 = ⟨b.key, b.fin⟩ := by unfold keysC; rw [if_neg (by omega), if_pos hb5]
    rw [sb, meets_key] at h2
    exact h2
theorem newM_read {c : Cmd} (h : writesC c = false) (o : Option Pair) : newM c o = o := by
  simp only [writesC, Bool.or_eq_false_iff, decide_eq_false_iff_not] at h
  simp [newM, h.1.1, h.1.2, h.2]
/-- Two commands that do not clash do the same to pairs in either order. -/
theorem done_apart {k : Int} {ps : List Pair} (h : okP k ps) (hk : 0 ≤ k) (hk2 : k ≤ 4611686018427387900) (hl : ps.length ≤ 30) {a b : Cmd} (ha : rightC a = true) (za : ¬ a = .zero) (hb : rightC b = true) (zb : ¬ b = .zero) (hc : clashC a b = false) (hc2 : clashC b a = false) :
    ∃ pa pb pab, (doneX (pairsX ps) a).1 = pairsX pa ∧ (doneX (pairsX ps) b).1 = pairsX pb ∧ (doneX (pairsX pa) b).1 = pairsX pab ∧ (doneX (pairsX pb) a).1 = pairsX pab ∧
      (doneX (pairsX pa) b).2 = (doneX (pairsX ps) b).2 ∧ (doneX (pairsX pb) a).2 = (doneX (pairsX ps) a).2 := by
  obtain ⟨pa, ea, oa, la, ja, na⟩ := done_act h hk (by omega) (by omega) ha za
  obtain ⟨pb, eb, ob, lb, jb, nb⟩ := done_act h hk (by omega) (by omega) hb zb
  obtain ⟨pab, eab, oab, lab, jab, nab⟩ := done_act oa (by omega) (by omega) (by omega) hb zb
  obtain ⟨pba, eba, oba, lba, jba, nba⟩ := done_act ob (by omega) (by omega) (by omega) ha za
  have xa := (apart_key ha za hb zb hc).2
  have xb := (apart_key hb zb ha za hc2).2
  obtain ⟨a1, _⟩ := right_facts ha za
  obtain ⟨b1, _⟩ := right_facts hb zb
  have same_a : ∀ j, (writesC a = true → j ≠ a.key) → look pa j = look ps j := fun j hj => by
    by_cases e : j = a.key
    · subst e
      cases hw : writesC a with
      | true => exact absurd rfl (hj hw)
      | false => rw [na, newM_read hw]
    · exact ja j e
  have same_b : ∀ j, (writesC b = true → j ≠ b.key) → look pb j = look ps j := fun j hj => by
    by_cases e : j = b.key
    · subst e
      cases hw : writesC b with
      | true => exact absurd rfl (hj hw)
      | false => rw [nb, newM_read hw]
    · exact jb j e
  have rb : (doneX (pairsX pa) b).2 = (doneX (pairsX ps) b).2 := rep_congr oa.1 h.1 (by omega) (by omega) b
    (fun h5 => same_a _ fun hw => (xa hw).1 h5) (fun h5 j hj => same_a _ fun hw e => by subst e; rw [(xa hw).2 h5] at hj; cases hj) b1
  have ra : (doneX (pairsX pb) a).2 = (doneX (pairsX ps) a).2 := rep_congr ob.1 h.1 (by omega) (by omega) a
    (fun h5 => same_b _ fun hw => (xb hw).1 h5) (fun h5 j hj => same_b _ fun hw e => by subst e; rw [(xb hw).2 h5] at hj; cases hj) a1
  have hall : pab = pba := by
    refine srt_ext oab.1 oba.1 fun j => ?_
    have wk : ∀ {c : Cmd}, writesC c = true → c.kind ≠ 5 := fun {c} hw h5 => by simp [writesC, h5] at hw
    have fa : look pba j = if writesC a = true ∧ j = a.key then newM a (look pb j) else look pb j := by
      by_cases e : j = a.key
      · subst e
        cases hw : writesC a with
        | true => rw [if_pos ⟨rfl, rfl⟩]; exact nba
        | false => rw [if_neg (by simp), nba, newM_read hw]
      · rw [if_neg (fun q => e q.2)]; exact jba j e
    have fb : look pab j = if writesC b = true ∧ j = b.key then newM b (look pa j) else look pa j := by
      by_cases e : j = b.key
      · subst e
        cases hw : writesC b with
        | true => rw [if_pos ⟨rfl, rfl⟩]; exact nab
        | false => rw [if_neg (by simp), nab, newM_read hw]
      · rw [if_neg (fun q => e q.2)]; exact jab j e
    have ga : look pa j = if writesC a = true ∧ j = a.key then newM a (look ps j) else look ps j := by
      by_cases e : j = a.key
      · subst e
        cases hw : writesC a with
        | true => rw [if_pos ⟨rfl, rfl⟩]; exact na
        | false => rw [if_neg (by simp), na, newM_read hw]
      · rw [if_neg (fun q => e q.2)]; exact ja j e
    have gb : look pb j = if writesC b = true ∧ j = b.key then newM b (look ps j) else look ps j := by
      by_cases e : j = b.key
      · subst e
        cases hw : writesC b with
        | true => rw [if_pos ⟨rfl, rfl⟩]; exact nb
        | false => rw [if_neg (by simp), nb, newM_read hw]
      · rw [if_neg (fun q => e q.2)]; exact jb j e
    rw [fa, fb, ga, gb]
    by_cases wa : writesC a = true ∧ j = a.key
    · have nb' : ¬ (writesC b = true ∧ j = b.key) := fun wb => (xa wa.1).1 (wk wb.1) (wb.2.symm.trans wa.2)
      rw [if_neg nb', if_pos wa, if_pos wa, if_neg nb']
    · rw [if_neg wa, if_neg wa]
  exact ⟨pa, pb, pab, ea, eb, eab, by rw [hall]; exact eba, rb, ra⟩

theorem ownAt_other {os : List Owner} {a c : Int} (h1 : 1 ≤ a) (h2 : 1 ≤ c) (hne : a ≠ c) (o : Owner) : ownAt (os.set (c - 1).toNat o) a = ownAt os a := ownAt_set_ne h1 h2 hne o
/-- What a right command comes to, by its number. -/
theorem apply_right {k : Int} {ps : List Pair} {os : List Owner} (h : okSt k ps os) (hk : 0 ≤ k) (hk2 : k ≤ 4611686018427387904) {c : Cmd} (hr : rightC c = true) (hz : ¬ c = .zero) :
    (c.seq = (ownAt os c.client).seq ∧ applyS (cellsS ps os) c = (cellsS ps os, (ownAt os c.client).reply)) ∨ (c.seq < (ownAt os c.client).seq ∧ applyS (cellsS ps os) c = (cellsS ps os, ⟨9, false, none8, 0, []⟩)) ∨
    ((ownAt os c.client).seq < c.seq ∧ ∃ qs r, (doneX (pairsX ps) c).1 = pairsX qs ∧ (doneX (pairsX ps) c).2 = r ∧ okSt (k + 1) qs (os.set (c.client - 1).toNat ⟨c.seq, r⟩) ∧ applyS (cellsS ps os) c = (cellsS qs (os.set (c.client - 1).toNat ⟨c.seq, r⟩), r)) := by
  rcases apply_cases h hk hk2 c with ⟨e, _⟩ | ⟨_, e, _⟩ | ⟨_, _, e1, e2⟩ | ⟨_, _, e1, e2⟩ | ⟨_, _, e1, qs, r, e2, hq, hR, _, e3⟩
  · exact absurd e hz
  · rw [hr] at e; cases e
  · exact .inl ⟨e1, e2⟩
  · exact .inr (.inl ⟨e1, e2⟩)
  · obtain ⟨_, f2, f3, _⟩ := right_facts hr hz
    exact .inr (.inr ⟨e1, qs, r, by rw [e2], by rw [e2], (h.mono (by omega)).set hq ⟨by show 0 ≤ c.seq; omega, f3.2, hR, fun e => absurd e (by show ¬ c.seq = 0; omega)⟩ _, e3⟩)
theorem pairs_inj {ps qs : List Pair} (h : pairsX ps = pairsX qs) : ps = qs := pairsX_inj.1 h
/-- Two commands of two clients that do not clash may be done in either order. -/
theorem apply_apart {k : Int} {ps : List Pair} {os : List Owner} (h : okSt k ps os) (hk : 0 ≤ k) (hk2 : k ≤ 4611686018427387900) (hl : ps.length ≤ 30) {a b : Cmd} (ha : rightC a = true) (za : ¬ a = .zero) (hb : rightC b = true) (zb : ¬ b = .zero) (hc : clashC a b = false) (hc2 : clashC b a = false) :
    ∃ s1 s2 x ra rb, applyS (cellsS ps os) a = (s1, ra) ∧ applyS s1 b = (x, rb) ∧ applyS (cellsS ps os) b = (s2, rb) ∧ applyS s2 a = (x, ra) := by
  have hne := (apart_key ha za hb zb hc).1
  obtain ⟨_, fa, _, _⟩ := right_facts ha za
  obtain ⟨_, fb, _, _⟩ := right_facts hb zb
  have oa : ∀ o, ownAt (os.set (b.client - 1).toNat o) a.client = ownAt os a.client := fun o => ownAt_set_ne fa.1 fb.1 hne o
  have ob : ∀ o, ownAt (os.set (a.client - 1).toNat o) b.client = ownAt os b.client := fun o => ownAt_set_ne fb.1 fa.1 (fun e => hne e.symm) o
  rcases apply_right h hk (by omega) ha za with ⟨a1, a2⟩ | ⟨a1, a2⟩ | ⟨a1, qa, ra, a2, a3, aok, a4⟩
  · rcases apply_right h hk (by omega) hb zb with ⟨b1, b2⟩ | ⟨b1, b2⟩ | ⟨b1, qb, rb, b2, b3, bok, b4⟩
    · exact ⟨_, _, _, _, _, a2, b2, b2, a2⟩
    · exact ⟨_, _, _, _, _, a2, b2, b2, a2⟩
    · refine ⟨_, _, _, _, _, a2, b4, b4, ?_⟩
      rcases apply_right bok (by omega) (by omega) ha za with ⟨c1, c2⟩ | ⟨c1, c2⟩ | ⟨c1, _⟩
      · rw [oa] at c2; exact c2
      · rw [oa] at c1; omega
      · rw [oa] at c1; omega
  · rcases apply_right h hk (by omega) hb zb with ⟨b1, b2⟩ | ⟨b1, b2⟩ | ⟨b1, qb, rb, b2, b3, bok, b4⟩
    · exact ⟨_, _, _, _, _, a2, b2, b2, a2⟩
    · exact ⟨_, _, _, _, _, a2, b2, b2, a2⟩
    · refine ⟨_, _, _, _, _, a2, b4, b4, ?_⟩
      rcases apply_right bok (by omega) (by omega) ha za with ⟨c1, c2⟩ | ⟨c1, c2⟩ | ⟨c1, _⟩
      · rw [oa] at c1; omega
      · exact c2
      · rw [oa] at c1; omega
  · rcases apply_right h hk (by omega) hb zb with ⟨b1, b2⟩ | ⟨b1, b2⟩ | ⟨b1, qb, rb, b2, b3, bok, b4⟩
    · refine ⟨_, _, _, _, _, a4, ?_, b2, a4⟩
      rcases apply_right aok (by omega) (by omega) hb zb with ⟨c1, c2⟩ | ⟨c1, c2⟩ | ⟨c1, _⟩
      · rw [ob] at c2; exact c2
      · rw [ob] at c1; omega
      · rw [ob] at c1; omega
    · refine ⟨_, _, _, _, _, a4, ?_, b2, a4⟩
      rcases apply_right aok (by omega) (by omega) hb zb with ⟨c1, c2⟩ | ⟨c1, c2⟩ | ⟨c1, _⟩
      · rw [ob] at c1; omega
      · exact c2
      · rw [ob] at c1; omega
    · obtain ⟨pa, pb, pab, d1, d2, d3, d4, d5, d6⟩ := done_apart h.1 hk hk2 hl ha za hb zb hc hc2
      have ea : qa = pa := pairs_inj (a2.symm.trans d1)
      have eb : qb = pb := pairs_inj (b2.symm.trans d2)
      subst ea eb
      have hcomm : (os.set (a.client - 1).toNat ⟨a.seq, ra⟩).set (b.client - 1).toNat ⟨b.seq, rb⟩ = (os.set (b.client - 1).toNat ⟨b.seq, rb⟩).set (a.client - 1).toNat ⟨a.seq, ra⟩ := List.set_comm _ _ (by omega)
      refine ⟨_, _, cellsS pab ((os.set (a.client - 1).toNat ⟨a.seq, ra⟩).set (b.client - 1).toNat ⟨b.seq, rb⟩), ra, rb, a4, ?_, b4, ?_⟩
      · rcases apply_right aok (by omega) (by omega) hb zb with ⟨c1, _⟩ | ⟨c1, _⟩ | ⟨c1, q, r, c2, c3, _, c4⟩
        · rw [ob] at c1; omega
        · rw [ob] at c1; omega
        · have e1 : q = pab := pairs_inj (c2.symm.trans d3)
          have e2 : r = rb := c3.symm.trans (d5.trans b3)
          rw [c4, e1, e2]
      · rcases apply_right bok (by omega) (by omega) ha za with ⟨c1, _⟩ | ⟨c1, _⟩ | ⟨c1, q, r, c2, c3, _, c4⟩
        · rw [oa] at c1; omega
        · rw [oa] at c1; omega
        · have e1 : q = pab := pairs_inj (c2.symm.trans d4)
          have e2 : r = ra := c3.symm.trans (d6.trans a3)
          rw [c4, e1, e2, hcomm]
theorem play_two {k : Int} {ps : List Pair} {os : List Owner} (h : okSt k ps os) (a b : Cmd) : playX (cellsS ps os) (cmdsX [a, b]) = ((applyS (applyS (cellsS ps os) a).1 b).1, repsX [(applyS (cellsS ps os) a).2, (applyS (applyS (cellsS ps os) a).1 b).2]) := by
  unfold playX
  rw [cmdsOf_X, upS_cells h]
  rfl

end Go.Proofs.Ytijknhdaipnjaaa
