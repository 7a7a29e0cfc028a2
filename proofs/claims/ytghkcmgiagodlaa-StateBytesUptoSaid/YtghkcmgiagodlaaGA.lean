/- Settled slices whose cells may hold nothing. No condition: lemmas of any program. -/
import Derived.Test.YtghkcmgiagodlaaAm40
import Derived.Test.YtghkcmgiagodlaaStZ
import Derived.Test.YtghkcmgiagodlaaRegF
import Derived.Test.YtghkcmgiagodlaaAm33
namespace Go.Proofs.Ytghkcmgiagodlaa
open Go.RowKit
set_option linter.all false
def upP : PD → PD
  | .sc (.slice none 0 0) => .slc 3 []
  | p => p
theorem upP_cases (p : PD) : upP p = p ∨ (p = .sc (.slice none 0 0) ∧ upP p = .slc 3 []) := by
  unfold upP
  split
  · exact .inr ⟨rfl, rfl⟩
  · exact .inl rfl
def upR (xs : List (List PD)) : List (List PD) := xs.map fun x => x.map upP
theorem RepP.upP {w : World} {S : Nat → Prop} {p : PD} {u : Value} (h : RepP w S p u) : RepP w S (upP p) u := by
  rcases upP_cases p with e | ⟨e, e2⟩
  · rw [e]; exact h
  · rw [e2]
    rw [e] at h
    exact .inl ⟨rfl, h⟩
theorem CellsP.upP {w : World} {S : Nat → Prop} : ∀ (ps : List PD) (a : Addr), CellsP w S ps a → CellsP w S (ps.map Proofs.Ytghkcmgiagodlaa.upP) a
  | [], _, _ => trivial
  | p :: ps, a, ⟨⟨u, h1, h2, h3⟩, h4⟩ => ⟨⟨u, h1, h2, RepP.upP h3⟩, CellsP.upP ps _ h4⟩
theorem RowsP.upR {w : World} {S : Nat → Prop} {sz : Nat} : ∀ (xs : List (List PD)) (a : Addr), RowsP w S sz xs a → RowsP w S sz (upR xs) a
  | [], _, _ => trivial
  | x :: xs, a, ⟨h1, h2, h3⟩ => ⟨by rw [List.length_map]; exact h1, CellsP.upP x a h2, RowsP.upR xs _ h3⟩
theorem Rep.upR {E : Env} {sz : Nat} {xs : List (List PD)} {u : Value} (h : Rep E (.d (.slc sz xs)) u) : Rep E (.d (.slc sz (upR xs))) u := by
  rcases h with ⟨rfl, h⟩ | ⟨a, c, h1, h2, h3, h4, h5⟩
  · exact .inl ⟨rfl, h⟩
  · refine .inr ⟨a, c, ?_, ?_, h3, ?_, RowsP.upR xs a h5⟩
    · simpa [Proofs.Ytghkcmgiagodlaa.upR] using h1
    · simpa [Proofs.Ytghkcmgiagodlaa.upR] using h2
    · intro hn
      refine h4 fun e => hn ?_
      rw [e]; rfl
def toldR (s : SL) : SL → Prop
  | [] => True
  | (i, d) :: l => (getS s i = d ∨ ∃ sz xs, getS s i = .d (.slc sz xs) ∧ d = .d (.slc sz (upR xs))) ∧ toldR s l
theorem toldR_get {s : SL} : ∀ {l : SL}, toldR s l → ∀ i, (getS l i = getS s i ∨ ∃ sz xs, getS s i = .d (.slc sz xs) ∧ getS l i = .d (.slc sz (upR xs))) ∨ getS l i = .any
  | [], _, i => .inr rfl
  | (j, d) :: l, h, i => by
      by_cases hi : i = j
      · subst hi
        left
        have e : getS ((i, d) :: l) i = d := by simp [getS]
        rw [e]
        rcases h.1 with h1 | h1
        · exact .inl h1.symm
        · exact .inr h1
      · have := toldR_get h.2 i
        have e : getS ((j, d) :: l) i = getS l i := by
          have e0 : (i == j) = false := by simp [hi]
          simp only [getS, e0]
        rw [e]
        exact this
/-- Settled slices are told with settled empty ones where their cells hold nothing. -/
theorem told_rows {k : Nat} {s s' : SL} {st : Store} (h : toldR s s') : Told k s st s' st := by
  intro E N a hc hst hs
  refine ⟨E, rfl, hst, hc, ⟨hs.size, fun i => ?_, hs.defers⟩, fun _ _ _ h => h⟩
  rcases toldR_get h i with (h | ⟨sz, xs, h1, h2⟩) | h
  · rw [h]; exact hs.rep i
  · rw [h2]
    have := hs.rep i
    rw [h1] at this
    exact Rep.upR this
  · rw [h]; trivial
mutual
theorem Rep.stv {E E' : Env} (hw : E'.w = E.w) (hS : E'.S = E.S) (hσ : E'.σ = E.σ) (h : ∀ (b : Nat) (bx : Box), E.st[b]? = some bx → ∃ bx' : Box, E'.st[b]? = some bx' ∧ bx'.ver = bx.ver) : ∀ (d : DV) (u : Value), Rep E d u → Rep E' d u
  | .any, _, _ => trivial
  | .d p, u, hr => by
      show RepP E'.w E'.S p u
      rw [hw, hS]
      exact hr
  | .agg cs, u, ⟨vs, h1, h2, h3⟩ => ⟨vs, h1, h2, Reps.stv hw hS hσ h cs vs h3⟩
  | .tup cs, u, ⟨vs, h1, h3⟩ => ⟨vs, h1, Reps.stv hw hS hσ h cs vs h3⟩
  | .ref b ver o, u, ⟨bx, gz, h1, h2, h3, h4, h5⟩ => by
      obtain ⟨bx', e1, e2⟩ := h b bx h1
      exact ⟨bx', gz, e1, by rw [hσ]; exact h2, h3, by rw [e2]; exact h4, fun e => h5 (by rw [e, e2])⟩
  | .cref cs, u, ⟨a, h1, h2, h3⟩ => ⟨a, h1, by rw [hS]; exact h2, by rw [hw, hS]; exact h3⟩
  | .view sz b ver o n, u, ⟨bx, gz, h1, h2, h3, h4, h5⟩ => by
      obtain ⟨bx', e1, e2⟩ := h b bx h1
      exact ⟨bx', gz, e1, by rw [hσ]; exact h2, h3, by rw [e2]; exact h4, fun e => h5 (by rw [e, e2])⟩
  | .fn f cs, u, ⟨vs, h1, h3⟩ => ⟨vs, h1, Reps.stv hw hS hσ h cs vs h3⟩
theorem Reps.stv {E E' : Env} (hw : E'.w = E.w) (hS : E'.S = E.S) (hσ : E'.σ = E.σ) (h : ∀ (b : Nat) (bx : Box), E.st[b]? = some bx → ∃ bx' : Box, E'.st[b]? = some bx' ∧ bx'.ver = bx.ver) : ∀ (ds : List DV) (us : List Value), Reps E ds us → Reps E' ds us
  | [], [], _ => trivial
  | [], _ :: _, h => h.elim
  | _ :: _, [], h => h.elim
  | d :: ds, u :: us, ⟨h1, h2⟩ => ⟨Rep.stv hw hS hσ h d u h1, Reps.stv hw hS hσ h ds us h2⟩
end
theorem UpL.len : ∀ {cs ds : List DV}, UpL cs ds → ds.length = cs.length
  | [], ds, h => by have e : ds = [] := h; subst e; rfl
  | c :: cs, ds, ⟨b, bs, e, h1, h2⟩ => by subst e; simp [UpL.len h2]
theorem UpL.get : ∀ {cs ds : List DV}, UpL cs ds → ∀ (j : Nat) (d : DV), ds[j]? = some d → ∃ c, cs[j]? = some c ∧ UpD c d
  | [], ds, h, j, d, hd => by have e : ds = [] := h; subst e; simp at hd
  | c :: cs, ds, ⟨b, bs, e, h1, h2⟩, j, d, hd => by
      subst e
      cases j with
      | zero => simp at hd; subst hd; exact ⟨c, rfl, h1⟩
      | succ j => exact UpL.get h2 j d (by simpa using hd)
/-- The boxes' cells are told with settled empty slices where they hold nothing. -/
def UpSt : Store → Store → Prop
  | [], st' => st' = []
  | bx :: st, st' => ∃ bx' st2, st' = bx' :: st2 ∧ (bx'.ty = bx.ty ∧ bx'.ext = bx.ext ∧ bx'.ver = bx.ver ∧ bx'.live = bx.live ∧ UpL bx.cells bx'.cells) ∧ UpSt st st2
theorem UpSt.len : ∀ {st st' : Store}, UpSt st st' → st'.length = st.length
  | [], st', h => by have e : st' = [] := h; subst e; rfl
  | bx :: st, st', ⟨_, _, e, _, h⟩ => by subst e; simp [UpSt.len h]
theorem UpSt.get : ∀ {st st' : Store}, UpSt st st' → ∀ (b : Nat) (bx : Box), st[b]? = some bx → ∃ bx' : Box, st'[b]? = some bx' ∧ bx'.ty = bx.ty ∧ bx'.ext = bx.ext ∧ bx'.ver = bx.ver ∧ bx'.live = bx.live ∧ UpL bx.cells bx'.cells
  | [], st', h, b, bx, hb => by simp at hb
  | b0 :: st, st', ⟨b1, st2, e, h1, h2⟩, b, bx, hb => by
      subst e
      cases b with
      | zero => simp at hb; subst hb; exact ⟨b1, rfl, h1⟩
      | succ b => exact UpSt.get h2 b bx (by simpa using hb)
theorem UpSt.back : ∀ {st st' : Store}, UpSt st st' → ∀ (b : Nat) (bx' : Box), st'[b]? = some bx' → ∃ bx : Box, st[b]? = some bx ∧ bx'.ty = bx.ty ∧ bx'.ext = bx.ext ∧ bx'.ver = bx.ver ∧ bx'.live = bx.live ∧ UpL bx.cells bx'.cells
  | [], st', h, b, bx, hb => by have e : st' = [] := h; subst e; simp at hb
  | b0 :: st, st', ⟨b1, st2, e, h1, h2⟩, b, bx, hb => by
      subst e
      cases b with
      | zero => simp at hb; subst hb; exact ⟨b0, rfl, h1⟩
      | succ b => exact UpSt.back h2 b bx (by simpa using hb)
theorem UpSt.refl : ∀ st : Store, UpSt st st
  | [] => rfl
  | bx :: st => ⟨bx, st, rfl, ⟨rfl, rfl, rfl, rfl, UpL.refl' _⟩, UpSt.refl st⟩
theorem UpSt.cons {ty : TypeId} {cs ds : List DV} {e : Bool} {v : Nat} {l : Bool} {st st' : Store} (h : UpL cs ds) (hs : UpSt st st') : UpSt (⟨ty, cs, e, v, l⟩ :: st) (⟨ty, ds, e, v, l⟩ :: st') := ⟨_, _, rfl, ⟨rfl, rfl, rfl, rfl, h⟩, hs⟩
theorem told_upst {k : Nat} {s s' : SL} {st st' : Store} (h : UpSt st st') (hs : toldUP s s') : Told k s st s' st' := by
  intro E N a hc hst hok
  subst hst
  have hv : ∀ (b : Nat) (bx : Box), E.st[b]? = some bx → ∃ bx' : Box, st'[b]? = some bx' ∧ bx'.ver = bx.ver := fun b bx hb => by
    obtain ⟨bx', h1, _, _, h2, _⟩ := h.get b bx hb
    exact ⟨bx', h1, h2⟩
  let E' : Env := ⟨E.w, E.S, E.σ, st'⟩
  refine ⟨E', rfl, rfl, ⟨hc.len.trans h.len.symm, fun b bx' g z h1 h2 hl => ?_, hc.inj, hc.old, hc.lt⟩, ⟨hok.size, fun i => ?_, hok.defers⟩, fun F q1 q2 q3 => ?_⟩
  · obtain ⟨bx, g1, g2, g3, g4, g5, g6⟩ := h.back b bx' h1
    obtain ⟨cur, c1, c2, c3, c4, c5, c6, c7, c8⟩ := hc.box b bx g z g1 h2 (by rw [← g5]; exact hl)
    refine ⟨cur, by rw [g2]; exact c1, c2, by rw [g6.len]; exact c3, fun e => by rw [g6.len]; exact c4 (by rw [← g3]; exact e), c5, c6, fun j d hj => ?_, c8⟩
    obtain ⟨c, k1, k2⟩ := g6.get j d hj
    obtain ⟨u, u1, u2, u3⟩ := c7 j c k1
    exact ⟨u, u1, u2, Rep.stv (E := E) (E' := E') rfl rfl rfl hv d u (UpD.rep k2 u3)⟩
  · rcases toldUP_get hs i with h1 | h1
    · exact Rep.stv (E := E) (E' := E') rfl rfl rfl hv _ _ (UpD.rep h1 (hok.rep i))
    · rw [h1]; trivial
  · refine ⟨q3.size, q3.os, q3.tape, q3.output, q3.set, q3.fresh, q3.heap, fun b bx gz b1 b2 => ?_, q3.new⟩
    obtain ⟨bx1, gz1, r1, r2, r3, r4, r5, r6⟩ := q3.box b bx gz b1 b2
    obtain ⟨bx2, s1, _, _, s2, s3, _⟩ := h.get b bx1 r1
    exact ⟨bx2, gz1, s1, r2, by rw [s2]; exact r3, fun e => r4 (by rw [e, s2]), fun e => by rw [s3]; exact r5 e, r6⟩
end Go.Proofs.Ytghkcmgiagodlaa
namespace Go.Proofs.Ytghkcmgiagodlaa
open Go.RowKit
set_option linter.all false
/-- May a pair be, its version at most so much? -/
def okPr (k : Int) (p : Pair) : Prop := ltb none8 p.key = true ∧ p.key.size ≤ 16 ∧ p.value.size ≤ 64 ∧ 1 ≤ p.version ∧ p.version ≤ k
def okP (k : Int) (ps : List Pair) : Prop := Srt ps ∧ ps.length ≤ 32 ∧ ∀ p ∈ ps, okPr k p
theorem okPr.mono {k n : Int} {p : Pair} (h : okPr k p) (hn : k ≤ n) : okPr n p := ⟨h.1, h.2.1, h.2.2.1, h.2.2.2.1, by have := h.2.2.2.2; omega⟩
theorem okP.mono {k n : Int} {ps : List Pair} (h : okP k ps) (hn : k ≤ n) : okP n ps := ⟨h.1, h.2.1, fun p hp => (h.2.2 p hp).mono hn⟩
theorem okP.nil {k : Int} : okP k [] := ⟨List.Pairwise.nil, by decide, by simp⟩
theorem okP.isP {k : Int} {ps : List Pair} (h : okP k ps) : isP (pairsX ps) := ⟨ps, rfl, by have := h.2.1; omega⟩
theorem riseP_ok {k : Int} : ∀ (ps : List Pair) (last : ByteArray), Srt ps → (∀ p ∈ ps, okPr k p ∧ ltb last p.key = true) → riseP last ps = true
  | [], _, _, _ => rfl
  | p :: ps, last, hs, h => by
      unfold Srt at hs
      rw [List.pairwise_cons] at hs
      obtain ⟨⟨h1, h2, h3, h4, h5⟩, h6⟩ := h p (by simp)
      have := riseP_ok ps p.key hs.2 fun q hq => ⟨(h q (by simp [hq])).1, hs.1 q hq⟩
      simp only [riseP, okP1, h6, this, Bool.and_true, Bool.true_and, Bool.and_eq_true, decide_eq_true_eq]
      exact ⟨⟨h2, h3⟩, h4⟩
theorem okP.right {k : Int} {ps : List Pair} (h : okP k ps) : rightX (pairsX ps) = true := by
  unfold rightX rightP
  rw [pairsOf_X, riseP_ok ps none8 h.1 fun p hp => ⟨h.2.2 p hp, (h.2.2 p hp).1⟩]
  simpa using h.2.1
theorem mem_look {ps : List Pair} (hs : Srt ps) {p : Pair} (hp : p ∈ ps) : look ps p.key = some p := by
  induction ps with
  | nil => simp at hp
  | cons q ps ih =>
    unfold Srt at hs
    rw [List.pairwise_cons] at hs
    rcases List.mem_cons.1 hp with rfl | hp
    · exact look_cons_eq
    · rw [look_cons_ne (ltb_ne (hs.1 p hp))]
      exact ih hs.2 hp
theorem look_mem {ps : List Pair} {key : ByteArray} {p : Pair} (h : look ps key = some p) : p ∈ ps ∧ p.key = key := by
  unfold look at h
  have h1 := List.mem_of_find?_eq_some h
  have h2 := List.find?_some h
  exact ⟨h1, by simpa using h2⟩
theorem putX_len {xs : List (List PD)} (h : xs.length ≤ 32) (key value : ByteArray) : (putX xs key value).1.length ≤ 32 := by
  unfold putX
  split
  · rw [setP_len]; exact h
  · split
    · decide
    · simp only [newP, List.length_append, List.length_take, List.length_drop, List.length_singleton]
      omega
theorem delX_len {xs : List (List PD)} (h : xs.length ≤ 32) (key : ByteArray) : (delX xs key).1.length ≤ 32 := by
  unfold delX
  split
  · simp only [delP, List.length_append, List.length_take, List.length_drop]
    omega
  · exact h
theorem put_ok {k : Int} {ps : List Pair} (h : okP k ps) {key value : ByteArray} (h1 : ltb none8 key = true) (h2 : key.size ≤ 16) (h3 : value.size ≤ 64) (hk : 0 ≤ k) (hk2 : k ≤ 4611686018427387904) (hw : (putX (pairsX ps) key value).2 = 0) :
    ∃ qs, (putX (pairsX ps) key value).1 = pairsX qs ∧ okP (k + 1) qs ∧ (∀ j, j ≠ key → look qs j = look ps j) ∧ look qs key = some ⟨key, value, match look ps key with | some p => p.version + 1 | none => 1⟩ := by
  obtain ⟨qs, e, hs, hj, hq⟩ := put_look h.1 key value hw
  have hl := putX_len (xs := pairsX ps) (by rw [pairsX_length]; exact h.2.1) key value
  rw [e, pairsX_length] at hl
  have hq2 : look qs key = some ⟨key, value, match look ps key with | some p => p.version + 1 | none => 1⟩ := by
    rw [hq]
    cases hlk : look ps key with
    | none => rfl
    | some p =>
      have := h.2.2 p (look_mem hlk).1
      simp only
      rw [wrap_i64 (by unfold r64; have := this.2.2.2; omega)]
  refine ⟨qs, e, ⟨hs, hl, fun p hp => ?_⟩, hj, hq2⟩
  have hlp := mem_look hs hp
  by_cases hpk : p.key = key
  · rw [hpk, hq2] at hlp
    cases hlp
    refine ⟨h1, h2, h3, ?_, ?_⟩
    · cases hlk : look ps key with
      | none => simp
      | some q => have := (h.2.2 q (look_mem hlk).1).2.2.2; simp only; omega
    · cases hlk : look ps key with
      | none => simp only; omega
      | some q => have := (h.2.2 q (look_mem hlk).1).2.2.2; simp only; omega
  · rw [hj _ hpk] at hlp
    exact (h.2.2 p (look_mem hlp).1).mono (by omega)
theorem del_ok {k : Int} {ps : List Pair} (h : okP k ps) (key : ByteArray) : ∃ qs, (delX (pairsX ps) key).1 = pairsX qs ∧ okP k qs ∧ (∀ j, j ≠ key → look qs j = look ps j) ∧ look qs key = none := by
  obtain ⟨qs, e, hs, hj, hq⟩ := del_look h.1 key
  have hl := delX_len (xs := pairsX ps) (by rw [pairsX_length]; exact h.2.1) key
  rw [e, pairsX_length] at hl
  refine ⟨qs, e, ⟨hs, hl, fun p hp => ?_⟩, hj, hq⟩
  have hlp := mem_look hs hp
  by_cases hpk : p.key = key
  · rw [hpk, hq] at hlp; cases hlp
  · rw [hj _ hpk] at hlp
    exact h.2.2 p (look_mem hlp).1
theorem range_eq (ps : List Pair) (s : Span) : rangeX (pairsX ps) s = (pairsX ((ps.filter fun p => hasS s p.key).take 8), decide (8 < (ps.filter fun p => hasS s p.key).length)) := by
  unfold rangeX
  rw [pairsOf_X, rangeL_filter s ps [] (by simp)]
  simp
theorem Srt.sub {ps qs : List Pair} (h : Srt ps) (hq : qs.Sublist ps) : Srt qs := List.Pairwise.sublist hq h
theorem range_ok {k : Int} {ps : List Pair} (h : okP k ps) (s : Span) : okP k ((ps.filter fun p => hasS s p.key).take 8) ∧ ((ps.filter fun p => hasS s p.key).take 8).length ≤ 8 := by
  have hsub : ((ps.filter fun p => hasS s p.key).take 8).Sublist ps := (List.take_sublist _ _).trans List.filter_sublist
  refine ⟨⟨h.1.sub hsub, ?_, fun p hp => h.2.2 p (hsub.subset hp)⟩, ?_⟩
  · exact Nat.le_trans hsub.length_le h.2.1
  · rw [List.length_take]; omega
/-- May a reply be? -/
def okRp (k : Int) (r : Reply) : Prop := (r.why = 0 ∨ r.why = 7) ∧ r.value.size ≤ 64 ∧ 0 ≤ r.version ∧ r.version ≤ k ∧ ∃ ps, r.pairs = pairsX ps ∧ okP k ps ∧ ps.length ≤ 8
theorem okRp.mono {k n : Int} {r : Reply} (h : okRp k r) (hn : k ≤ n) : okRp n r := by
  obtain ⟨h1, h2, h3, h4, ps, h5, h6, h7⟩ := h
  exact ⟨h1, h2, h3, by omega, ps, h5, h6.mono hn, h7⟩
theorem okRp.right {k : Int} {r : Reply} (h : okRp k r) : rightRep r = true := by
  obtain ⟨h1, h2, h3, h4, ps, h5, h6, h7⟩ := h
  unfold rightRep
  rw [h5, h6.right, pairsX_length]
  simp only [Bool.and_true, Bool.and_eq_true, Bool.or_eq_true, decide_eq_true_eq]
  exact ⟨⟨⟨h1, h2⟩, h3⟩, h7⟩
theorem okRp.zero {k : Int} (hk : 0 ≤ k) : okRp k zeroRep := ⟨.inl rfl, by decide, by decide, hk, [], rfl, okP.nil, by decide⟩
theorem okRp.isP {k : Int} {r : Reply} (h : okRp k r) : Proofs.Ytghkcmgiagodlaa.isP r.pairs := by
  obtain ⟨_, _, _, _, ps, h5, h6, _⟩ := h
  rw [h5]
  exact h6.isP
def okOw (k : Int) (o : Owner) : Prop := 0 ≤ o.seq ∧ o.seq ≤ 1099511627776 ∧ okRp k o.reply ∧ (o.seq = 0 → o.reply = zeroRep)
theorem okOw.mono {k n : Int} {o : Owner} (h : okOw k o) (hn : k ≤ n) : okOw n o := ⟨h.1, h.2.1, h.2.2.1.mono hn, h.2.2.2⟩
theorem okOw.right {k : Int} {o : Owner} (h : okOw k o) : okO o = true := by
  obtain ⟨h1, h2, h3, h4⟩ := h
  unfold okO
  rw [h3.right]
  simp only [Bool.and_true, Bool.and_eq_true, Bool.or_eq_true, decide_eq_true_eq, Bool.not_eq_true', decide_eq_false_iff_not]
  refine ⟨⟨h1, h2⟩, ?_⟩
  by_cases e : o.seq = 0
  · right; rw [h4 e]; rfl
  · left; exact e
def okSt (k : Int) (ps : List Pair) (os : List Owner) : Prop := okP k ps ∧ os.length = 8 ∧ ∀ o ∈ os, okOw k o
def cellsS (ps : List Pair) (os : List Owner) : List DV := .d (.slc 3 (pairsX ps)) :: ownsD os
theorem rightOs_all : ∀ {os : List Owner}, (∀ o ∈ os, okO o = true) → rightOs os = true
  | [], _ => rfl
  | o :: os, h => by
      have := rightOs_all (os := os) fun q hq => h q (List.mem_cons_of_mem _ hq)
      show (okO o && rightOs os) = true
      rw [h o (List.mem_cons_self ..), this]
      rfl
theorem okSt.own {k : Int} {ps : List Pair} {os : List Owner} (h : okSt k ps os) : isOwn (ownsD os) := ⟨os, h.2.1, rfl, fun o ho => (h.2.2 o ho).2.2.1.isP⟩
theorem okSt.is {k : Int} {ps : List Pair} {os : List Owner} (h : okSt k ps os) : isSt (cellsS ps os) := isSt.mk h.1.isP h.own
theorem okSt.prs {k : Int} {ps : List Pair} {os : List Owner} (h : okSt k ps os) : prsS (cellsS ps os) = pairsX ps := rfl
theorem okSt.owns {k : Int} {ps : List Pair} {os : List Owner} (h : okSt k ps os) : ownS (cellsS ps os) = ownsD os := own_mk h.own
theorem okSt.right {k : Int} {ps : List Pair} {os : List Owner} (h : okSt k ps os) : rightSt (cellsS ps os) = true := by
  unfold rightSt stateX
  rw [h.prs, h.owns, ownersOf_D h.2.1 rfl, rightOs_all fun o ho => (h.2.2 o ho).right, h.1.right]
  rfl
theorem right_facts {c : Cmd} (h : rightC c = true) (hz : ¬ c = .zero) : (1 ≤ c.kind ∧ c.kind ≤ 5) ∧ (1 ≤ c.client ∧ c.client ≤ 8) ∧ (1 ≤ c.seq ∧ c.seq ≤ 1099511627776) ∧ c.key.size ≤ 16 ∧ c.fin.size ≤ 16 ∧ c.val.size ≤ 64 ∧ (c.kind ≠ 5 → ltb none8 c.key = true) := by
  unfold rightC at h
  simp only [hz, decide_false, Bool.false_or, Bool.and_eq_true, Bool.or_eq_true, decide_eq_true_eq, Bool.not_eq_true', decide_eq_false_iff_not, within] at h
  obtain ⟨⟨⟨⟨⟨⟨⟨⟨h1, h2⟩, h3⟩, h4⟩, h5⟩, h6⟩, h7⟩, h8⟩, h9⟩ := h
  refine ⟨h1, h2, h3, h5, h6, h8, fun hk => ?_⟩
  rcases h9 with h9 | h9
  · exact ltb_not (ltb_empty _) h9
  · exact absurd h9 hk
theorem got_ok {k : Int} {ps : List Pair} (h : okP k ps) (hk : 0 ≤ k) (key : ByteArray) : (getP (pairsX ps) key).1.value.size ≤ 64 ∧ 0 ≤ (getP (pairsX ps) key).1.version ∧ (getP (pairsX ps) key).1.version ≤ k := by
  rw [get_look h.1, gotL]
  cases hl : look ps key with
  | none => exact ⟨by decide, by decide, hk⟩
  | some p =>
    have := h.2.2 p (look_mem hl).1
    exact ⟨this.2.2.1, by have := this.2.2.2; simp only; omega, this.2.2.2.2⟩
theorem put_there {xs : List (List PD)} {key : ByteArray} (h : (getP xs key).2 = true) (value : ByteArray) : (putX xs key value).2 = 0 := by
  have h1 : (findX xs key).2 = true := h
  unfold putX
  rw [if_pos h1]
theorem done_ok {k : Int} {ps : List Pair} (h : okP k ps) (hk : 0 ≤ k) (hk2 : k ≤ 4611686018427387904) {c : Cmd} (hc : rightC c = true) (hz : ¬ c = .zero) :
    ∃ qs, (doneX (pairsX ps) c).1 = pairsX qs ∧ okP (k + 1) qs ∧ okRp (k + 1) (doneX (pairsX ps) c).2 ∧ (writesC c = false → qs = ps) := by
  obtain ⟨f1, f2, f3, f4, f5, f6, f7⟩ := right_facts hc hz
  obtain ⟨g1, g2, g3⟩ := got_ok h hk c.key
  have hm : okP (k + 1) ps := h.mono (by omega)
  have e0 : okP (k + 1) [] := okP.nil
  have hw : IntKind.wrap .i64 ((getP (pairsX ps) c.key).1.version + 1) = (getP (pairsX ps) c.key).1.version + 1 := wrap_i64 (by unfold r64; omega)
  have hb : (0 : Int) ≤ k + 1 := by omega
  have hn : (none8 : ByteArray).size ≤ 64 := by decide
  by_cases k1 : c.kind = 1
  · refine ⟨ps, ?_, hm, ?_, fun _ => rfl⟩
    · simp only [doneX, k1, decide_true, cond_true]
    · simp only [doneX, k1, decide_true, cond_true]
      exact ⟨.inl rfl, g1, g2, (by omega : (getP (pairsX ps) c.key).1.version ≤ k + 1), [], rfl, e0, by decide⟩
  by_cases k2 : c.kind = 2
  · simp only [doneX, k2, decide_true, cond_true, show decide ((2 : Int) = 1) = false from rfl, cond_false]
    by_cases hp : (putX (pairsX ps) c.key c.val).2 = 0
    · obtain ⟨qs, e, hq, _⟩ := put_ok h (f7 (by omega)) f4 f6 hk hk2 hp
      simp only [hp, decide_true, Bool.not_true, cond_false]
      have q1 : 0 ≤ IntKind.wrap .i64 ((getP (pairsX ps) c.key).1.version + 1) := by rw [hw]; omega
      have q2 : IntKind.wrap .i64 ((getP (pairsX ps) c.key).1.version + 1) ≤ k + 1 := by rw [hw]; omega
      exact ⟨qs, e, hq, ⟨.inl rfl, hn, q1, q2, [], rfl, e0, by decide⟩, fun hx => by simp [writesC, k2] at hx⟩
    · have h7 : (putX (pairsX ps) c.key c.val).2 = 7 := (putX_why _ _ _).resolve_left hp
      simp only [h7, show decide ((7 : Int) = 0) = false from rfl, Bool.not_false, cond_true]
      exact ⟨ps, rfl, hm, ⟨.inr rfl, hn, Int.le_refl _, hb, [], rfl, e0, by decide⟩, fun _ => rfl⟩
  by_cases k3 : c.kind = 3
  · simp only [doneX, k3, decide_true, cond_true, show decide ((3 : Int) = 1) = false from rfl, show decide ((3 : Int) = 2) = false from rfl, cond_false]
    obtain ⟨qs, e, hq, _⟩ := del_ok h c.key
    exact ⟨qs, e, hq.mono (by omega), ⟨.inl rfl, hn, g2, (by omega : (getP (pairsX ps) c.key).1.version ≤ k + 1), [], rfl, e0, by decide⟩, fun hx => by simp [writesC, k3] at hx⟩
  by_cases k4 : c.kind = 4
  · simp only [doneX, k4, decide_true, cond_true, show decide ((4 : Int) = 1) = false from rfl, show decide ((4 : Int) = 2) = false from rfl, show decide ((4 : Int) = 3) = false from rfl, cond_false]
    cases hg : (getP (pairsX ps) c.key).2 with
    | false =>
      simp only [Bool.not_false, cond_true]
      exact ⟨ps, rfl, hm, ⟨.inl rfl, g1, g2, (by omega : (getP (pairsX ps) c.key).1.version ≤ k + 1), [], rfl, e0, by decide⟩, fun _ => rfl⟩
    | true =>
      simp only [Bool.not_true, cond_false]
      by_cases ho : (getP (pairsX ps) c.key).1.value = c.old
      · simp only [ho, decide_true, Bool.not_true, cond_false]
        obtain ⟨qs, e, hq, _⟩ := put_ok h (f7 (by omega)) f4 f6 hk hk2 (put_there hg c.val)
        rw [ho] at g1
        have q1 : 0 ≤ IntKind.wrap .i64 ((getP (pairsX ps) c.key).1.version + 1) := by rw [hw]; omega
        have q2 : IntKind.wrap .i64 ((getP (pairsX ps) c.key).1.version + 1) ≤ k + 1 := by rw [hw]; omega
        exact ⟨qs, e, hq, ⟨.inl rfl, g1, q1, q2, [], rfl, e0, by decide⟩, fun hx => by simp [writesC, k4] at hx⟩
      · simp only [ho, decide_false, Bool.not_false, cond_true]
        exact ⟨ps, rfl, hm, ⟨.inl rfl, g1, g2, (by omega : (getP (pairsX ps) c.key).1.version ≤ k + 1), [], rfl, e0, by decide⟩, fun _ => rfl⟩
  · have k5 : c.kind = 5 := by omega
    simp only [doneX, k5, show decide ((5 : Int) = 1) = false from rfl, show decide ((5 : Int) = 2) = false from rfl, show decide ((5 : Int) = 3) = false from rfl, show decide ((5 : Int) = 4) = false from rfl, cond_false, range_eq]
    have hr := range_ok hm ⟨c.key, c.fin⟩
    exact ⟨ps, rfl, hm, ⟨.inl rfl, hn, Int.le_refl _, hb, _, rfl, hr.1, hr.2⟩, fun _ => rfl⟩
/-- The owner of a client. -/
def ownAt (os : List Owner) (client : Int) : Owner := os.getD (client - 1).toNat ⟨0, zeroRep⟩
theorem look_os {os : List Owner} (hos : os.length = 8) (hp : isOwn (ownsD os)) {client : Int} (h1 : 1 ≤ client) (h2 : client ≤ 8) (seq : Int) :
    lookU (ownsD os) client seq = if (ownAt os client).seq < seq then (1, zeroRep) else if seq = (ownAt os client).seq then (2, (ownAt os client).reply) else (3, zeroRep) := by
  have hi : (client - 1).toNat < os.length := by omega
  have e := ownOf_D (cs := ownsD os) rfl _ hi
  have e2 : os[(client - 1).toNat]'hi = ownAt os client := by
    unfold ownAt
    rw [List.getD_eq_getElem?_getD, List.getElem?_eq_getElem hi]
    rfl
  unfold lookU
  rw [own_up hp]
  unfold lookX
  rw [e, e2]
  simp only [knownX, h1, h2, decide_true, Bool.and_self, cond_true, cond_eq_ite, decide_eq_true_eq, if_true]
theorem note_os {os : List Owner} (hos : os.length = 8) (hp : isOwn (ownsD os)) {client : Int} (h1 : 1 ≤ client) (h2 : client ≤ 8) (seq : Int) (r : Reply) : noteU (ownsD os) client seq r = ownsD (os.set (client - 1).toNat ⟨seq, r⟩) := by
  unfold noteU
  rw [own_up hp, noteX_D hos rfl]
  simp [noteOs, knownX, h1, h2]
/-- What a command comes to, over pairs and owners. -/
theorem apply_cases {k : Int} {ps : List Pair} {os : List Owner} (h : okSt k ps os) (hk : 0 ≤ k) (hk2 : k ≤ 4611686018427387904) (c : Cmd) :
    (c = .zero ∧ applyS (cellsS ps os) c = (cellsS ps os, zeroRep)) ∨
    (¬ c = .zero ∧ rightC c = false ∧ applyS (cellsS ps os) c = (cellsS ps os, ⟨1, false, none8, 0, []⟩)) ∨
    (¬ c = .zero ∧ rightC c = true ∧ c.seq = (ownAt os c.client).seq ∧ applyS (cellsS ps os) c = (cellsS ps os, (ownAt os c.client).reply)) ∨
    (¬ c = .zero ∧ rightC c = true ∧ c.seq < (ownAt os c.client).seq ∧ applyS (cellsS ps os) c = (cellsS ps os, ⟨9, false, none8, 0, []⟩)) ∨
    (¬ c = .zero ∧ rightC c = true ∧ (ownAt os c.client).seq < c.seq ∧ ∃ qs r, doneX (pairsX ps) c = (pairsX qs, r) ∧ okP (k + 1) qs ∧ okRp (k + 1) r ∧ (writesC c = false → qs = ps) ∧ applyS (cellsS ps os) c = (cellsS qs (os.set (c.client - 1).toNat ⟨c.seq, r⟩), r)) := by
  unfold applyS
  rw [h.prs, h.owns]
  unfold applyL
  by_cases hz : c = .zero
  · left
    refine ⟨hz, ?_⟩
    simp only [hz, decide_true, cond_true]
    rfl
  right
  cases hr : rightC c with
  | false =>
    left
    refine ⟨hz, rfl, ?_⟩
    simp only [decide_eq_false hz, cond_false, Bool.not_false, cond_true]
    rfl
  | true =>
    right
    obtain ⟨_, f2, f3, _⟩ := right_facts hr hz
    have hl := look_os h.2.1 h.own f2.1 f2.2 c.seq
    simp only [decide_eq_false hz, cond_false, Bool.not_true]
    rw [hl]
    by_cases h1 : (ownAt os c.client).seq < c.seq
    · right; right
      simp only [if_pos h1, show decide ((1 : Int) = 2) = false from rfl, show decide ((1 : Int) = 3) = false from rfl, cond_false]
      obtain ⟨qs, e, hq, hR, hw⟩ := done_ok h.1 hk hk2 hr hz
      refine ⟨hz, trivial, h1, qs, (doneX (pairsX ps) c).2, Prod.ext e rfl, hq, hR, hw, ?_⟩
      rw [e, note_os h.2.1 h.own f2.1 f2.2]
      rfl
    · simp only [if_neg h1]
      by_cases h2 : c.seq = (ownAt os c.client).seq
      · left
        simp only [if_pos h2, decide_true, cond_true]
        exact ⟨hz, trivial, h2, rfl⟩
      · right; left
        simp only [if_neg h2, show decide ((3 : Int) = 2) = false from rfl, decide_true, cond_true, cond_false]
        exact ⟨hz, trivial, by omega, rfl⟩
theorem okSt.mono {k n : Int} {ps : List Pair} {os : List Owner} (h : okSt k ps os) (hn : k ≤ n) : okSt n ps os := ⟨h.1.mono hn, h.2.1, fun o ho => (h.2.2 o ho).mono hn⟩
theorem okSt.set {k : Int} {ps qs : List Pair} {os : List Owner} (h : okSt k ps os) (hq : okP k qs) {o : Owner} (ho : okOw k o) (i : Nat) : okSt k qs (os.set i o) :=
  ⟨hq, by rw [List.length_set]; exact h.2.1, fun x hx => by
    rcases List.mem_or_eq_of_mem_set hx with h1 | h1
    · exact h.2.2 x h1
    · rw [h1]; exact ho⟩
theorem apply_ok {k : Int} {ps : List Pair} {os : List Owner} (h : okSt k ps os) (hk : 0 ≤ k) (hk2 : k ≤ 4611686018427387904) (c : Cmd) : ∃ qs rs, (applyS (cellsS ps os) c).1 = cellsS qs rs ∧ okSt (k + 1) qs rs := by
  have hm := h.mono (show k ≤ k + 1 by omega)
  rcases apply_cases h hk hk2 c with ⟨_, e⟩ | ⟨_, _, e⟩ | ⟨_, _, _, e⟩ | ⟨_, _, _, e⟩ | ⟨hz, hr, hlt, qs, r, _, hq, hR, _, e⟩
  · exact ⟨ps, os, by rw [e], hm⟩
  · exact ⟨ps, os, by rw [e], hm⟩
  · exact ⟨ps, os, by rw [e], hm⟩
  · exact ⟨ps, os, by rw [e], hm⟩
  · obtain ⟨_, f2, f3, _⟩ := right_facts hr hz
    exact ⟨qs, _, by rw [e], hm.set hq ⟨by show 0 ≤ c.seq; omega, f3.2, hR, fun e => absurd e (by show ¬ c.seq = 0; omega)⟩ _⟩
theorem playL_st : ∀ (l : List Cmd) {k : Int} {ps : List Pair} {os : List Owner} (acc : List Reply), okSt k ps os → 0 ≤ k → k + l.length ≤ 4611686018427387904 → ∃ qs rs, (playL (cellsS ps os) l acc).1 = cellsS qs rs ∧ okSt (k + l.length) qs rs
  | [], k, ps, os, acc, h, _, _ => ⟨ps, os, rfl, by simpa using h⟩
  | c :: l, k, ps, os, acc, h, hk, hk2 => by
      rw [List.length_cons] at hk2
      obtain ⟨qs, rs, e, h2⟩ := apply_ok h hk (by omega) c
      obtain ⟨q2, r2, e2, h3⟩ := playL_st l (acc ++ [(applyS (cellsS ps os) c).2]) h2 (by omega) (by omega)
      refine ⟨q2, r2, ?_, ?_⟩
      · show (playL (applyS (cellsS ps os) c).1 l _).1 = _
        rw [e]
        exact e2
      · rw [List.length_cons]
        rw [show k + ((l.length + 1 : Nat) : Int) = k + 1 + (l.length : Int) by omega]
        exact h3
theorem zero_st : okSt 0 [] (List.replicate 8 ⟨0, zeroRep⟩) := ⟨okP.nil, rfl, fun o ho => by
  rw [List.eq_of_mem_replicate ho]
  exact ⟨by decide, by decide, okRp.zero (by decide), fun _ => rfl⟩⟩
end Go.Proofs.Ytghkcmgiagodlaa
namespace Go.Proofs.Ytghkcmgiagodlaa
open Go.RowKit
set_option linter.all false
theorem sameS_refl (xs : List (List PD)) (cs : List DV) : sameS xs cs xs cs = true := by simp [sameS]
theorem sameSt_refl (s : List DV) : sameSt s s = true := sameS_refl _ _
end Go.Proofs.Ytghkcmgiagodlaa
namespace Go.Proofs.Ytghkcmgiagodlaa
open Go.RowKit
set_option linter.all false
set_option maxHeartbeats 4000000
abbrev Z49 : List DV := .d (.sc (.slice none 0 0)) :: Z48
theorem z49 : isSt Z49 := isSt.ofN zOwn
def cmdsR : List Cmd := [ofC 2 1 1 { data := #[97] } none8 { data := #[49] }, ofC 2 1 1 { data := #[97] } none8 { data := #[49] }, ofC 1 2 1 { data := #[97] } none8 none8, ofC 2 1 0 { data := #[98] } none8 none8, ofC 4 1 2 { data := #[97] } { data := #[49] } { data := #[50] }, ofC 4 1 3 { data := #[97] } { data := #[49] } { data := #[51] }, ofC 3 1 4 { data := #[97] } none8 none8, ofC 2 1 2 { data := #[97] } none8 { data := #[57] }]
theorem rrow {xs : List (List PD)} {rs : List Reply} (hxs : xs = repsX rs) {i : Int} (h0 : 0 ≤ i) (h1 : i < rs.length) : xs.getD i.toNat [] = (rs[i.toNat]'(by omega)).row := by
  subst hxs
  have : i.toNat < rs.length := by omega
  simp [repsX, List.getD_eq_getElem?_getD, this]
def repsR : List Reply := [⟨0, false, none8, 1, []⟩, ⟨0, false, none8, 1, []⟩, ⟨0, true, { data := #[49] }, 1, []⟩, ⟨1, false, none8, 0, []⟩, ⟨0, true, { data := #[49] }, 2, []⟩, ⟨0, false, { data := #[50] }, 2, []⟩, ⟨0, true, none8, 2, []⟩, ⟨9, false, none8, 0, []⟩]
set_option maxRecDepth 100000 in
theorem play_r : (playL (upS Z49) cmdsR []).2 = repsR := by kernel_rfl
theorem play_x : (playX Z49 (cmdsX cmdsR)).2 = repsX repsR := by
  unfold playX
  rw [cmdsOf_X, play_r]
structure FsS7 where
  runs : Bool
def FsS70 : FsS7 where
  runs := true
set_option maxRecDepth 100000 in
theorem v_runs : FnV Try.prog 30 [] (boolD true) := by
  obtain ⟨GFsS6, hGFsS6⟩ : ∃ F, F = FsS60 := ⟨_, rfl⟩
  obtain ⟨GFsOw, hGFsOw⟩ : ∃ F, F = FsOw0 := ⟨_, rfl⟩
  have hH : SoundK Try.prog [kn_of GFsS6, kn_play GFsS6, kn_replies GFsOw] := by subst hGFsS6 hGFsOw; exact orK_ok ok_of (orK_ok ok_play (orK_ok ok_replies noK_ok))
  refine FnD_cbv (T := fun _ => tabY [1017, 5004, 41, 45] [1, 2]) (H := fun _ => [kn_of GFsS6, kn_play GFsS6, kn_replies GFsOw]) (tabY_ok _ _) hH follows_mixed Try.func30 rfl Try.ntmps30 (by simp) fun A X W hA hX hW => ?_
  cbv
  have e0 : GFsS6.of 2 1 1 { data := #[97] } none8 { data := #[49] } = ⟨2, 1, 1, { data := #[97] }, none8, none8, { data := #[49] }⟩ := by subst hGFsS6; rfl
  cbv at e0
  have e1 : GFsS6.of 1 2 1 { data := #[97] } none8 none8 = ⟨1, 2, 1, { data := #[97] }, none8, none8, none8⟩ := by subst hGFsS6; rfl
  cbv at e1
  have e2 : GFsS6.of 2 1 0 { data := #[98] } none8 none8 = ⟨2, 1, 0, { data := #[98] }, none8, none8, none8⟩ := by subst hGFsS6; rfl
  cbv at e2
  have e3 : GFsS6.of 4 1 2 { data := #[97] } { data := #[49] } { data := #[50] } = ⟨4, 1, 2, { data := #[97] }, none8, { data := #[49] }, { data := #[50] }⟩ := by subst hGFsS6; rfl
  cbv at e3
  have e4 : GFsS6.of 4 1 3 { data := #[97] } { data := #[49] } { data := #[51] } = ⟨4, 1, 3, { data := #[97] }, none8, { data := #[49] }, { data := #[51] }⟩ := by subst hGFsS6; rfl
  cbv at e4
  have e5 : GFsS6.of 3 1 4 { data := #[97] } none8 none8 = ⟨3, 1, 4, { data := #[97] }, none8, none8, none8⟩ := by subst hGFsS6; rfl
  cbv at e5
  have e6 : GFsS6.of 2 1 2 { data := #[97] } none8 { data := #[57] } = ⟨2, 1, 2, { data := #[97] }, none8, none8, { data := #[57] }⟩ := by subst hGFsS6; rfl
  cbv at e6
  obtain ⟨sv, hsv⟩ : ∃ sv, sv = (playX Z49 (cmdsX cmdsR)).1 := ⟨_, rfl⟩
  obtain ⟨rr, hrr⟩ : ∃ rr : List (List PD), rr = [[.sc (.int .i64 0), .sc (.bool false), .sc (.string none8), .sc (.int .i64 1), .slc 3 []], [.sc (.int .i64 0), .sc (.bool false), .sc (.string none8), .sc (.int .i64 1), .slc 3 []], [.sc (.int .i64 0), .sc (.bool true), .sc (.string { data := #[49] }), .sc (.int .i64 1), .slc 3 []], [.sc (.int .i64 1), .sc (.bool false), .sc (.string none8), .sc (.int .i64 0), .slc 3 []], [.sc (.int .i64 0), .sc (.bool true), .sc (.string { data := #[49] }), .sc (.int .i64 2), .slc 3 []], [.sc (.int .i64 0), .sc (.bool false), .sc (.string { data := #[50] }), .sc (.int .i64 2), .slc 3 []], [.sc (.int .i64 0), .sc (.bool true), .sc (.string none8), .sc (.int .i64 2), .slc 3 []], [.sc (.int .i64 9), .sc (.bool false), .sc (.string none8), .sc (.int .i64 0), .slc 3 []]] := ⟨_, rfl⟩
  have ep : GFsS6.play Z49 [[.sc (.int .i64 2), .sc (.int .i64 1), .sc (.int .i64 1), .sc (.string { data := #[97] }), .sc (.string none8), .sc (.string none8), .sc (.string { data := #[49] })], [.sc (.int .i64 2), .sc (.int .i64 1), .sc (.int .i64 1), .sc (.string { data := #[97] }), .sc (.string none8), .sc (.string none8), .sc (.string { data := #[49] })], [.sc (.int .i64 1), .sc (.int .i64 2), .sc (.int .i64 1), .sc (.string { data := #[97] }), .sc (.string none8), .sc (.string none8), .sc (.string none8)], [.sc (.int .i64 2), .sc (.int .i64 1), .sc (.int .i64 0), .sc (.string { data := #[98] }), .sc (.string none8), .sc (.string none8), .sc (.string none8)], [.sc (.int .i64 4), .sc (.int .i64 1), .sc (.int .i64 2), .sc (.string { data := #[97] }), .sc (.string none8), .sc (.string { data := #[49] }), .sc (.string { data := #[50] })], [.sc (.int .i64 4), .sc (.int .i64 1), .sc (.int .i64 3), .sc (.string { data := #[97] }), .sc (.string none8), .sc (.string { data := #[49] }), .sc (.string { data := #[51] })], [.sc (.int .i64 3), .sc (.int .i64 1), .sc (.int .i64 4), .sc (.string { data := #[97] }), .sc (.string none8), .sc (.string none8), .sc (.string none8)], [.sc (.int .i64 2), .sc (.int .i64 1), .sc (.int .i64 2), .sc (.string { data := #[97] }), .sc (.string none8), .sc (.string none8), .sc (.string { data := #[57] })]] = (sv, rr) := by
    subst hGFsS6
    rw [hsv, hrr]
    exact Prod.ext rfl play_x
  cbv at ep
  (with_reducible refine regionF (T := fun _ => tabY [1017, 5004, 41, 45] [1,2]) (H := fun _ => [kn_of GFsS6, kn_play GFsS6, kn_replies GFsOw]) (tabY_ok _ _) hH hA hX ?_) <;> cbv
  simp only [e0, e1, e2, e3, e4, e5, e6, ep]
  refine ⟨by subst hGFsS6; exact z49, by subst hGFsS6; exact ⟨cmdsR, rfl, by decide⟩, by subst hA; rfl, by subst hA; rfl, by subst hA; show sv.length = 49 * 1; rw [hsv]; exact (z49.play _).len, ?_⟩
  (with_reducible refine regionF (T := fun _ => tabY [1017, 5004, 41, 45] [1,2]) (H := fun _ => [kn_of GFsS6, kn_play GFsS6, kn_replies GFsOw]) (tabY_ok _ _) hH hA hX ?_) <;> cbv
  have m1 : A.len rr = 8 := by subst hA; subst hrr; rfl
  have m2 : A.len [[.sc (.int .i64 0), .sc (.bool false), .sc (.string none8), .sc (.int .i64 1), .sc (.slice none 0 0)], [.sc (.int .i64 0), .sc (.bool false), .sc (.string none8), .sc (.int .i64 1), .sc (.slice none 0 0)], [.sc (.int .i64 0), .sc (.bool true), .sc (.string { data := #[49] }), .sc (.int .i64 1), .sc (.slice none 0 0)], [.sc (.int .i64 1), .sc (.bool false), .sc (.string none8), .sc (.int .i64 0), .sc (.slice none 0 0)], [.sc (.int .i64 0), .sc (.bool true), .sc (.string { data := #[49] }), .sc (.int .i64 2), .sc (.slice none 0 0)], [.sc (.int .i64 0), .sc (.bool false), .sc (.string { data := #[50] }), .sc (.int .i64 2), .sc (.slice none 0 0)], [.sc (.int .i64 0), .sc (.bool true), .sc (.string none8), .sc (.int .i64 2), .sc (.slice none 0 0)], [.sc (.int .i64 9), .sc (.bool false), .sc (.string none8), .sc (.int .i64 0), .sc (.slice none 0 0)]] = 8 := by subst hA; rfl
  have m3 : A.cmp .neq 8 8 = false := by subst hA; rfl
  cbv at m1
  cbv at m2
  cbv at m3
  simp only [m1, m2, m3]
  cbv
  refine pauseL hX (s' := [(2, .d (.slc 5 rr)), (3, .d (.slc 5 rr)), (4, .d (.sc (.int .i64 0)))]) (st' := [⟨34, sv, false, 0, true⟩]) (told_rows ⟨.inl rfl, .inr ⟨5, [[.sc (.int .i64 0), .sc (.bool false), .sc (.string none8), .sc (.int .i64 1), .sc (.slice none 0 0)], [.sc (.int .i64 0), .sc (.bool false), .sc (.string none8), .sc (.int .i64 1), .sc (.slice none 0 0)], [.sc (.int .i64 0), .sc (.bool true), .sc (.string { data := #[49] }), .sc (.int .i64 1), .sc (.slice none 0 0)], [.sc (.int .i64 1), .sc (.bool false), .sc (.string none8), .sc (.int .i64 0), .sc (.slice none 0 0)], [.sc (.int .i64 0), .sc (.bool true), .sc (.string { data := #[49] }), .sc (.int .i64 2), .sc (.slice none 0 0)], [.sc (.int .i64 0), .sc (.bool false), .sc (.string { data := #[50] }), .sc (.int .i64 2), .sc (.slice none 0 0)], [.sc (.int .i64 0), .sc (.bool true), .sc (.string none8), .sc (.int .i64 2), .sc (.slice none 0 0)], [.sc (.int .i64 9), .sc (.bool false), .sc (.string none8), .sc (.int .i64 0), .sc (.slice none 0 0)]], rfl, by rw [hrr]; rfl⟩, .inl rfl, trivial⟩) ?_
  have hrx : rr = repsX repsR := hrr
  clear hrr
  refine loopL (T := fun _ => tabY [1017, 5004, 41, 45] []) (H := fun _ => [kn_of GFsS6, kn_play GFsS6, kn_replies GFsOw]) (tabY_ok _ _) hH follows_mixed hA hX (fun i : Int => 0 ≤ i ∧ i ≤ 8)
    (fun i => [(2, .d (.slc 5 rr)), (3, .d (.slc 5 rr)), (4, .d (.sc (.int .i64 i)))]) (fun _ => [⟨34, sv, false, 0, true⟩])
    (fun i => 8 - i.toNat) 0 ?_ ?_ ?_
  · exact ⟨by omega, by omega⟩
  · exact told_less ⟨.inl rfl, .inl rfl, .inl rfl, trivial⟩
  rintro R i hR ⟨i0, i1⟩
  cbv
  simp only [m1]
  repeat' first
    | (refine part (fun h => ?_) (fun h => ?_) <;> try cbv)
    | (refine And.intro ?_ ?_)
  all_goals subst hA hX hW hR hGFsS6 hGFsOw
  all_goals try clear hH
  all_goals replace i0 : 0 ≤ i := i0
  all_goals replace i1 : i ≤ 8 := i1
  all_goals first
    | exact rfl
    | (show Region.lexB _ _ = true; kernel_rfl)
    | exact ret_v rfl rfl
    | (have h8 : i < 8 := by
         have h2 := ‹A0.cmp .lss i 8 = true›
         simpa [A0] using h2
       have hlt : i < repsR.length := h8
       have hrow := rrow hrx i0 hlt
       have hip : ∀ r ∈ repsR, isP r.pairs := by
         intro r hr
         have e : ∀ r ∈ repsR, r.pairs = [] := by decide
         rw [e r hr]
         exact isP.nil
       have hpi := hip _ (List.getElem_mem (show i.toNat < repsR.length by omega))
       generalize repsR[i.toNat]'(by omega) = r at hrow hpi
       have hl8 : (rr.length : Int) = 8 := by rw [hrx]; rfl
       have ei : IntKind.wrap .i64 (i + 1) = i + 1 := wrap_i64 (by unfold r64; omega)
       simp only [A0, nc, FsOw0, hrow, Reply.row, List.map_cons, List.map_nil, Nat.zero_add, List.getElem?_cons_zero, List.getElem?_cons_succ, List.drop_zero, List.take_succ_cons, List.take_zero, List.length_cons, List.length_nil] at *
       first
         | (refine ⟨by omega, by omega⟩)
         | exact hpi
         | (simp; done)
         | (refine ⟨i + 1, ⟨by omega, by omega⟩, by omega, told_less ?_⟩
            simp [toldP, getS, ei]
            done)
         | (exfalso
            have h2 := ‹(!repliesX _ _) = true›
            rw [repliesX_true rfl] at h2
            exact absurd h2 (by decide)))
    | fail
def kn_runs (F : FsS7) : FuncId × (List DV → RV) := (30, fun args => match args with
  | [] => some ([], boolD F.runs)
  | _ => none)
theorem ok_runs (args : List DV) (cs : List Prop) (r : DV) (h : (kn_runs FsS70).2 args = some (cs, r)) (hc : allP cs True) : FnV Try.prog 30 args r ∧ closedL 0 args = true := by
  unfold kn_runs at h
  simp only at h
  split at h
  · cases h; exact ⟨v_runs, rfl⟩
  · cases h
end Go.Proofs.Ytghkcmgiagodlaa
namespace Go.Proofs.Ytghkcmgiagodlaa
open Go.RowKit
set_option linter.all false
set_option maxHeartbeats 4000000
def shortX (xs : List (List PD)) : List (List PD) := if 60 < xs.length then xs.take 60 else xs
theorem isC.short {xs : List (List PD)} (h : isC xs) : isC (shortX xs) := by
  unfold shortX
  split
  · obtain ⟨l, rfl, hl⟩ := h
    exact ⟨l.take 60, by simp [cmdsX], by rw [List.length_take]; omega⟩
  · exact h
theorem short_len (xs : List (List PD)) : (shortX xs).length ≤ 60 := by
  unfold shortX
  split
  · rw [List.length_take]; omega
  · omega
structure FsSh where
  short : List (List PD) → List (List PD)
  isC : List (List PD) → Prop
def FsSh0 : FsSh where
  short := shortX
  isC := isC
set_option maxRecDepth 100000 in
theorem v_short (xs : List (List PD)) (hp0 : FsSh0.isC xs) : FnV Try.prog 23 [.d (.slc 7 xs)] (.d (.slc 7 (shortX xs))) := by
  refine FnD_cbv (T := fun _ => tabY [] []) (H := fun _ => []) (tabY_ok _ _) noK_ok follows_mixed Try.func23 rfl Try.ntmps23 (by simp) fun A X W hA hX hW => ?_
  cbv
  obtain ⟨l, hxs, hl⟩ := hp0
  have hlen : xs.length = l.length := by rw [hxs]; simp [cmdsX]
  repeat' first
    | (refine part (fun h => ?_) (fun h => ?_) <;> try cbv)
    | (refine And.intro ?_ ?_)
  all_goals subst hA hX hW
  all_goals simp only [A0, nc, decide_eq_true_eq, decide_eq_false_iff_not] at *
  all_goals first
    | omega
    | (refine ret_v ?_ rfl
       unfold shortX
       first
         | (rw [if_pos (by omega)]; rfl)
         | (rw [if_neg (by omega)]))
    | fail
def kn_short (F : FsSh) : FuncId × (List DV → RV) := (23, fun args => match args with
  | [.d (.slc 7 xs)] => some ([F.isC xs], .d (.slc 7 (F.short xs)))
  | [.d (.sc (.slice none 0 0))] => some ([F.isC []], .d (.slc 7 (F.short [])))
  | _ => none)
theorem ok_short (args : List DV) (cs : List Prop) (r : DV) (h : (kn_short FsSh0).2 args = some (cs, r)) (hc : allP cs True) : FnV Try.prog 23 args r ∧ closedL 0 args = true := by
  unfold kn_short at h
  simp only at h
  split at h
  · cases h; exact ⟨v_short _ hc.1, rfl⟩
  · cases h; exact ⟨FnP.nils (v_short [] hc.1) ⟨.inr ⟨rfl, _, rfl⟩, trivial⟩, rfl⟩
  · cases h
end Go.Proofs.Ytghkcmgiagodlaa
namespace Go.Proofs.Ytghkcmgiagodlaa
open Go.RowKit
set_option linter.all false
set_option maxHeartbeats 4000000
theorem ret_fz {r d : DV} {st : Store} {sz b : Nat} {xs : List (List PD)} {bx : Box} (hb : st[b]? = some bx) (hl : bx.live = true) (hcells : bx.cells = rowsD xs) (hsz : ∀ x ∈ xs, x.length = sz) (hd : fzD b bx.ver sz xs d = r) (hp : pureD r = true) :
    RetW 0 (fun x st => st = [] ∧ pureD x = true ∧ x = r) d st := by
  have h1 : TellsV 0 d st r (fzSt b sz xs st) := TellsV.turn (Turn.freeze b sz xs bx hb hl (Nat.zero_le _) hcells hsz) hd.symm
  obtain ⟨d', st', h2, h3⟩ := ret_v (r := r) (d := r) (st := fzSt b sz xs st) rfl hp
  exact ⟨d', st', TellsV.trans h1 h2, h3⟩
structure FsC1 where
  copyR : Reply → Reply
  isP : List (List PD) → Prop
def FsC10 : FsC1 where
  copyR := idR
  isP := isP
set_option maxRecDepth 100000 in
theorem v_copyR (r : Reply) (hp0 : FsC10.isP r.pairs) : FnV Try.prog 51 [Reply.D r] (Reply.D ((idR r))) := by
  obtain ⟨r_why, r_found, r_value, r_version, r_pairs⟩ := r
  refine FnD_cbv (T := fun _ => tabY [] []) (H := fun _ => []) (tabY_ok _ _) noK_ok follows_mixed Try.func51 rfl Try.ntmps51 (by simp) fun A X W hA hX hW => ?_
  cbv
  repeat' (refine And.intro ?_ ?_)
  all_goals subst hA hX hW
  all_goals first
    | exact rfl
    | (show 0 + List.length _ ≤ 9007199254740992 ∧ (0 + List.length _) * 40 ≤ 140737488355328
       have := isP.len hp0
       simp only at this
       exact ⟨by omega, by omega⟩)
    | (refine ret_fz (b := 2) (sz := 3) (xs := r_pairs) rfl rfl ?_ (isP.sz hp0) ?_ rfl
       · exact rfl
       · simp [fzD, fzL, A0, idR, Reply.D])
def kn_copyR (F : FsC1) : FuncId × (List DV → RV) := (51, fun args => match args with
  | [.agg [.d (.sc (.int .i64 r_why)), .d (.sc (.bool r_found)), .d (.sc (.string r_value)), .d (.sc (.int .i64 r_version)), .d (.slc 3 r_pairs)]] => some ([F.isP r_pairs], Reply.D ((F.copyR ⟨r_why, r_found, r_value, r_version, r_pairs⟩)))
  | [.agg [.d (.sc (.int .i64 r_why)), .d (.sc (.bool r_found)), .d (.sc (.string r_value)), .d (.sc (.int .i64 r_version)), .d (.sc (.slice none 0 0))]] => some ([F.isP []], Reply.D ((F.copyR ⟨r_why, r_found, r_value, r_version, []⟩)))
  | _ => none)
theorem ok_copyR (args : List DV) (cs : List Prop) (r : DV) (h : (kn_copyR FsC10).2 args = some (cs, r)) (hc : allP cs True) : FnV Try.prog 51 args r ∧ closedL 0 args = true := by
  unfold kn_copyR at h
  simp only at h
  split at h
  · cases h; exact ⟨v_copyR ⟨_, _, _, _, _⟩ hc.1, rfl⟩
  · cases h; exact ⟨FnP.ups (v_copyR ⟨_, _, _, _, []⟩ hc.1) (UpL.agg (UpL.keep (UpL.keep (UpL.keep (UpL.keep (UpL.nil UpL.done))))) UpL.done), rfl⟩
  · cases h
set_option maxRecDepth 100000 in
theorem v_twinL (xs : List (List PD)) (cs : List DV) (hp0 : isP xs) (hp1 : isOwn cs) : FnV Try.prog 24 [.agg (.d (.slc 3 xs) :: cs)] (.agg (.d (.slc 3 xs) :: cs)) := by
  have hcl := hp1.len
  have hcc := hp1.closed
  have hxl := hp0.len
  obtain ⟨os, hos, hcs, hop⟩ := hp1
  obtain ⟨m, hm⟩ : ∃ m, m = xs.length := ⟨_, rfl⟩
  obtain ⟨rc, hrc⟩ : ∃ rc, rc = rowsD xs := ⟨_, rfl⟩
  obtain ⟨z, hz⟩ : ∃ z, z = DV.d (.sc (.slice none 0 0)) :: Z48 := ⟨_, rfl⟩
  have hzl : z.length = 49 := by rw [hz]; rfl
  obtain ⟨F, hF⟩ : ∃ F, F = FsC10 := ⟨_, rfl⟩
  have hH : SoundK Try.prog [kn_copyR F] := by subst hF; exact orK_ok ok_copyR noK_ok
  refine FnD_cbv (T := fun _ => tabY [0, 16, 17, 21, 22, 1001, 1023, 1002, 5004] []) (H := fun _ => [kn_copyR F]) (tabY_ok _ _) hH follows_mixed Try.func24 rfl Try.ntmps24 (by simp) fun A X W hA hX hW => ?_
  cbv
  refine And.intro (by subst hA; show List.length _ ≤ 1000000; rw [List.length_cons, hcl]; decide) ?_
  repeat' (refine And.intro ?_ ?_)
  rotate_right
  refine loopL (T := fun _ => tabY [0, 16, 17, 21, 22, 1001, 1023, 1002, 5004] []) (H := fun _ => [kn_copyR F]) (tabY_ok _ _) hH follows_mixed hA hX (fun i : Int => 0 ≤ i ∧ i ≤ 8)
    (fun i => [(1, .ref 0 0 0), (2, .ref 1 0 0), (3, .d (.sc (.int .i64 i)))]) (fun _ => [⟨34, .view 3 2 1 0 m :: cs, false, 0, true⟩, ⟨34, z, false, 0, true⟩, ⟨63, rc, true, 1, true⟩])
    (fun i => 8 - i.toNat) 0 ?_ ?_ ?_
  · exact ⟨by omega, by omega⟩
  · subst hA hm hz hrc
    exact told_eq (by simp [A0]; try rfl) ⟨.inl rfl, .inl rfl, .inl rfl, trivial⟩
  rintro R i hR ⟨i0, i1⟩
  cbv
  rotate_left
  · subst hA; exact rfl
  · subst hA; exact rfl
  · subst hA
    show 0 + xs.length ≤ 9007199254740992 ∧ (0 + xs.length) * 40 ≤ 140737488355328
    exact ⟨by omega, by omega⟩
  refine part (fun h2 => ?_) (fun h2 => ?_) <;> cbv
  · replace i0 : 0 ≤ i := i0
    replace hos : os.length = 8 := hos
    have hi : i < 8 := by
      subst hA
      simp only [A0, decide_eq_true_eq] at h2
      exact h2
    have hin : i.toNat < os.length := by omega
    obtain ⟨q0, q1, q2, q3, q4, q5, r2, r3, r4, r5, qs1, qt, qt1, ql⟩ := st_cell (.view 3 2 1 0 m) hcs i.toNat hin
    have ho := hop _ (List.getElem_mem hin)
    generalize os[i.toNat]'hin = o at q0 q1 q2 q3 q4 q5 r2 r3 r4 r5 qs1 qt qt1 ho
    repeat' (refine And.intro ?_ ?_)
    all_goals subst hA hX hW hR hF
    all_goals first
      | exact rfl
      | exact ⟨i0, hi⟩
      | (simp only [A0, q1, q2, q3, q4, q5, qt1]; exact ⟨rfl, by omega, trivial⟩)
      | (show isP _; simp only [A0, q5]; exact ho)
      | (show 1 + i.toNat * 6 + 1 + 5 ≤ _; exact ql)
      | (have hw : IntKind.wrap .i64 (i + 1) = i + 1 := wrap_i64 (by unfold r64; omega)
         have e2 : splice (.view 3 2 1 0 m :: cs) (1 + i.toNat * 6 + 1) [.d (.sc (.int .i64 o.reply.why)), .d (.sc (.bool o.reply.found)), .d (.sc (.string o.reply.value)), .d (.sc (.int .i64 o.reply.version)), .d (.slc 3 o.reply.pairs)] = .view 3 2 1 0 m :: cs := splice_same qt1 rfl
         refine ⟨i + 1, ⟨by omega, by omega⟩, by omega, ?_⟩
         simp only [A0, FsC10, idR, q1, q2, q3, q4, q5, e2, hw]
         exact told_less (by simp [toldP, getS]))
      | fail
  · repeat' (refine And.intro ?_ ?_)
    all_goals subst hA hX hW hR hF
    all_goals first
      | exact rfl
      | (show List.length _ = 49 * 1; rw [List.length_cons, hcl])
      | (show List.length _ = 49 * 1; exact hzl)
      | (refine ret_fz (b := 2) (sz := 3) (xs := xs) rfl rfl ?_ (isP.sz hp0) ?_ ?_
         · exact hrc
         · simp [fzD, fzL, hm, fzL_closed _ _ _ _ _ hcc]
         · have h9 := hcc
           exact h9)
      | fail
theorem v_twinR (s : List DV) (h : isSt s) : FnV Try.prog 24 [.agg s] (.agg (upS s)) := by
  have e := h.eq
  refine FnP.ups (args := [.agg s]) (?_ : FnV Try.prog 24 [.agg (upCs s)] (.agg (upS s))) (UpL.agg (upL_upCs s) UpL.done)
  unfold upS
  rw [e]
  exact v_twinL _ _ h.prs h.own
theorem v_rightR2 (s : List DV) (h : isSt s) : FnV Try.prog 62 [.agg s] (boolD (rightSt s)) := by
  have e := h.eq
  refine FnP.ups (args := [.agg s]) (?_ : FnV Try.prog 62 [.agg (upCs s)] (boolD (rightSt s))) (UpL.agg (upL_upCs s) UpL.done)
  rw [e]
  exact v_state _ _ h.prs h.own
structure FsC2 where
  twinR : List DV → List DV
  rightR2 : List DV → Bool
  isSt : List DV → Prop
noncomputable def FsC20 : FsC2 where
  twinR := upS
  rightR2 := rightSt
  isSt := isSt
def kn_twinR (F : FsC2) : FuncId × (List DV → RV) := (24, fun args => match args with
  | [.agg s] => some ([F.isSt s], .agg ((F.twinR s)))
  | _ => none)
theorem ok_twinR (args : List DV) (cs : List Prop) (r : DV) (h : (kn_twinR FsC20).2 args = some (cs, r)) (hc : allP cs True) : FnV Try.prog 24 args r ∧ closedL 0 args = true := by
  unfold kn_twinR at h
  simp only at h
  split at h
  · cases h; exact ⟨v_twinR _ hc.1, clo1 (isSt.closed hc.1) rfl⟩
  · cases h
def kn_rightR2 (F : FsC2) : FuncId × (List DV → RV) := (62, fun args => match args with
  | [.agg s] => some ([F.isSt s], boolD ((F.rightR2 s)))
  | _ => none)
theorem ok_rightR2 (args : List DV) (cs : List Prop) (r : DV) (h : (kn_rightR2 FsC20).2 args = some (cs, r)) (hc : allP cs True) : FnV Try.prog 62 args r ∧ closedL 0 args = true := by
  unfold kn_rightR2 at h
  simp only at h
  split at h
  · cases h; exact ⟨v_rightR2 _ hc.1, clo1 (isSt.closed hc.1) rfl⟩
  · cases h
end Go.Proofs.Ytghkcmgiagodlaa
namespace Go.Proofs.Ytghkcmgiagodlaa
open Go.RowKit
set_option linter.all false
set_option maxHeartbeats 4000000
theorem rightR_eq (c : Cmd) : rightCR c = rightC c := by
  rw [Bool.eq_iff_iff]
  simp only [rightCR, rightC, within, Bool.or_eq_true, Bool.and_eq_true, decide_eq_true_eq, Bool.not_eq_true', decide_eq_false_iff_not]
  grind
theorem splice_cons (c : DV) (cs ds : List DV) (n : Nat) : splice (c :: cs) (1 + n) ds = c :: splice cs n ds := by
  simp only [splice]
  rw [Nat.add_comm 1 n, List.take_succ_cons, List.cons_append, List.cons_append, show n + 1 + ds.length = (n + ds.length) + 1 by omega, List.drop_succ_cons]
theorem client_facts {c : Cmd} (h : rightC c = true) (hz : ¬ c = .zero) : 1 ≤ c.client ∧ c.client ≤ 8 ∧ 1 ≤ c.seq := by
  unfold rightC at h
  simp only [hz, decide_false, Bool.false_or, Bool.and_eq_true, Bool.or_eq_true, decide_eq_true_eq, within] at h
  omega
set_option maxRecDepth 100000 in
theorem v_applyRL (xs : List (List PD)) (cs : List DV) (c : Cmd) (hp0 : isP xs) (hp1 : isOwn cs) : FnV Try.prog 26 [.agg (.d (.slc 3 xs) :: cs), Cmd.D c] (.tup [.agg (applyL xs cs c).1, Reply.D (applyL xs cs c).2]) := by
  have hcl := hp1.len
  have hu := hp1.u
  have hst := isSt.mk hp0 hp1
  have hup : upS (.d (.slc 3 xs) :: cs) = .d (.slc 3 xs) :: cs := st_up hp1
  have hoo := hp1
  obtain ⟨os, hos, hcs, hop⟩ := hoo
  obtain ⟨c_kind, c_client, c_seq, c_key, c_fin, c_old, c_val⟩ := c
  obtain ⟨GFsC2, hGFsC2⟩ : ∃ F, F = FsC20 := ⟨_, rfl⟩
  obtain ⟨GFs5, hGFs5⟩ : ∃ F, F = Fs50 := ⟨_, rfl⟩
  obtain ⟨GFsC1, hGFsC1⟩ : ∃ F, F = FsC10 := ⟨_, rfl⟩
  obtain ⟨GFsDn, hGFsDn⟩ : ∃ F, F = FsDn0 := ⟨_, rfl⟩
  have hH : SoundK Try.prog [kn_twinR GFsC2, kn_crightR GFs5, kn_copyR GFsC1, kn_run GFsDn] := by subst hGFsC2 hGFs5 hGFsC1 hGFsDn; exact orK_ok ok_twinR (orK_ok ok_crightR (orK_ok ok_copyR (orK_ok ok_run noK_ok)))
  refine FnD_cbv (T := fun _ => tabY [0, 1002, 1006, 1004, 1014, 1020, 1023, 1035, 1044, 1065, 28, 64, 5004] [6]) (H := fun _ => [kn_twinR GFsC2, kn_crightR GFs5, kn_copyR GFsC1, kn_run GFsDn]) (tabY_ok _ _) hH follows_mixed Try.func26 rfl Try.ntmps26 (by simp) fun A X W hA hX hW => ?_
  cbv
  have hz : decide ((⟨c_kind, c_client, c_seq, c_key, c_fin, c_old, c_val⟩ : Cmd) = .zero) = A0.and (A0.cmp .eql c_kind 0) (A0.and (A0.cmp .eql c_client 0) (A0.and (A0.cmp .eql c_seq 0) (A0.and (A0.scmp .eql c_key none8) (A0.and (A0.scmp .eql c_fin none8) (A0.and (A0.scmp .eql c_old none8) (A0.and (A0.scmp .eql c_val none8) true)))))) := by
    rw [Bool.eq_iff_iff]
    simp [A0, Cmd.zero]
  have h9 := isOwn.closed hp1
  have hdn := doneX_isP hp0 ⟨c_kind, c_client, c_seq, c_key, c_fin, c_old, c_val⟩
  have e : GFsC2.twinR (.d (.slc 3 xs) :: cs) = .d (.slc 3 xs) :: cs := by subst hGFsC2; exact hup
  cbv at e
  repeat' first
    | (refine part (fun h => ?_) (fun h => ?_) <;> try cbv)
    | (simp only [e])
    | (refine And.intro ?_ ?_)
    | ((with_reducible refine goL (c := .region 6 _ _) (T := fun _ => tabY [0, 1002, 1006, 1004, 1014, 1020, 1023, 1035, 1044, 1065, 28, 64, 5004] []) (H := fun _ => [kn_twinR GFsC2, kn_crightR GFs5, kn_copyR GFsC1, kn_run GFsDn]) (tabY_ok _ _) hH follows_mixed hA hX ?_) <;> cbv)
  all_goals subst hA hX hW hGFsC2 hGFs5 hGFsC1 hGFsDn
  all_goals clear hH
  all_goals first
    | exact rfl
    | exact hp0
    | exact hst
    | (show Region.lexB _ _ = true; kernel_rfl)
    | (show turnsB _ = true; kernel_rfl)
    | exact hdn.2
    | (show List.length _ ≤ 1000000; rw [List.length_cons, hcl]; decide)
    | (show List.length _ = 49 * 1; rw [List.length_cons, hcl])
    | skip
  all_goals try
    have hr9 : A0.not (Fs50.crightR ⟨c_kind, c_client, c_seq, c_key, c_fin, c_old, c_val⟩) = false := by assumption
    have hz9 : A0.and (A0.cmp .eql c_kind 0) (A0.and (A0.cmp .eql c_client 0) (A0.and (A0.cmp .eql c_seq 0) (A0.and (A0.scmp .eql c_key none8) (A0.and (A0.scmp .eql c_fin none8) (A0.and (A0.scmp .eql c_old none8) (A0.and (A0.scmp .eql c_val none8) true)))))) = false := by assumption
    have hr8 : rightC ⟨c_kind, c_client, c_seq, c_key, c_fin, c_old, c_val⟩ = true := by
      rw [← rightR_eq]
      simpa [A0, Fs50] using hr9
    have hz8 : ¬ (⟨c_kind, c_client, c_seq, c_key, c_fin, c_old, c_val⟩ : Cmd) = .zero := by
      rw [← hz] at hz9
      exact of_decide_eq_false hz9
    obtain ⟨k1, k2, _⟩ := client_facts hr8 hz8
    replace k1 : 1 ≤ c_client := k1
    replace k2 : c_client ≤ 8 := k2
    have ew : IntKind.wrap .i64 (c_client - 1) = c_client - 1 := wrap_i64 (by unfold r64; omega)
    have hin : (c_client - 1).toNat < os.length := by omega
    obtain ⟨q0, q1, q2, q3, q4, q5, r2, r3, r4, r5, qs1, qt, qt1, ql⟩ := st_cell (.d (.slc 3 xs)) hcs (c_client - 1).toNat hin
    have ho := hop _ (List.getElem_mem hin)
    have hoa : os[(c_client - 1).toNat]'hin = ownAt os c_client := by
      unfold ownAt
      rw [List.getD_eq_getElem?_getD, List.getElem?_eq_getElem hin]
      rfl
    rw [hoa] at q0 q1 q2 q3 q4 q5 r2 r3 r4 r5 qs1 qt qt1 ho
    have hlk := look_os hos (by rw [← hcs]; exact hp1) k1 k2 c_seq
    rw [← hcs] at hlk
    have hnt : ∀ r, noteU cs c_client c_seq r = splice cs ((c_client - 1).toNat * 6) (Owner.cells ⟨c_seq, r⟩) := fun r => by
      unfold noteU
      rw [own_up hp1]
      simp [noteX, knownX, k1, k2]
    have hno := hu.note hdn.2 c_client c_seq
    have hll := hno.len
    have h8 := isOwn.closed hno
    generalize ownAt os c_client = o at q0 q1 q2 q3 q4 q5 r2 r3 r4 r5 qs1 qt qt1 ho hlk
  all_goals first
    | (show 0 ≤ A0.bin .sub .i64 c_client 1 ∧ A0.bin .sub .i64 c_client 1 < 8
       simp only [A0, ew]
       omega)
    | (simp only [A0, ew, q0, q1, r2, r3, r4, r5, qt]; exact ⟨rfl, ql, rfl⟩)
    | (show isP _; simp only [A0, ew, r5]; exact ho)
    | (simp only [A0, ew, List.length_cons, hcl]; omega)
    | (simp only [A0, FsC10, FsDn0, idR, ew, splice_cons]
       show List.length (_ :: splice cs _ (Owner.cells ⟨c_seq, (doneX xs ⟨c_kind, c_client, c_seq, c_key, c_fin, c_old, c_val⟩).2⟩)) = _
       rw [← hnt, List.length_cons, hll])
    | (refine ret_up ?_ ?_
       · simp only [applyL, hz]
         simp only [*, cond_true]
         first
           | exact updR
           | (simp only [cond_false, Bool.not_true, Bool.not_false, cond_true]; exact updR)
       · first
           | (simp [pureD, closedD, closedL, h9]; done))
    | skip
  · have e1 : rightC ⟨c_kind, c_client, c_seq, c_key, c_fin, c_old, c_val⟩ = false := by
      rw [← rightR_eq]
      simpa [A0, Fs50] using h
    have hzf := hz.trans ‹_›
    refine ret_up ?_ (by simp [pureD, closedD, closedL, h9])
    simp only [applyL, hzf, e1, cond_false, Bool.not_false, cond_true]
    exact updR
  · have hzf := decide_eq_false hz8
    have e1 : A0.cmp .eql c_seq (A0.gi (DV.d (.slc 3 xs) :: cs) (A0.off 1 (A0.bin .sub .i64 c_client 1) 6)) = true := by assumption
    simp only [A0, ew, q0, decide_eq_true_eq] at e1
    rw [if_neg (by omega), if_pos e1] at hlk
    refine ret_up ?_ (by simp [pureD, closedD, closedL, h9])
    simp only [applyL, hzf, hr8, hlk, cond_false, Bool.not_true, decide_true, cond_true]
    simp only [A0, FsC10, idR, ew, q1, r2, r3, r4, r5]
    exact UpD.refl _
  · have hzf := decide_eq_false hz8
    have e1 : A0.cmp .lss c_seq (A0.gi (DV.d (.slc 3 xs) :: cs) (A0.off 1 (A0.bin .sub .i64 c_client 1) 6)) = true := by assumption
    simp only [A0, ew, q0, decide_eq_true_eq] at e1
    rw [if_neg (by omega), if_neg (by omega)] at hlk
    refine ret_up ?_ (by simp [pureD, closedD, closedL, h9])
    simp only [applyL, hzf, hr8, hlk, cond_false, Bool.not_true, decide_true, cond_true, show decide ((3 : Int) = 2) = false from rfl]
    exact updR
  · have hzf := decide_eq_false hz8
    have e1 : A0.cmp .lss c_seq (A0.gi (DV.d (.slc 3 xs) :: cs) (A0.off 1 (A0.bin .sub .i64 c_client 1) 6)) = false := by assumption
    have e2 : A0.cmp .eql c_seq (A0.gi (DV.d (.slc 3 xs) :: cs) (A0.off 1 (A0.bin .sub .i64 c_client 1) 6)) = false := by assumption
    simp only [A0, ew, q0, decide_eq_false_iff_not] at e1 e2
    rw [if_pos (by omega)] at hlk
    have h7 := h8
    rw [hnt] at h7
    refine ret_up ?_ ?_
    · simp only [applyL, hzf, hr8, hlk, cond_false, Bool.not_true, show decide ((1 : Int) = 2) = false from rfl, show decide ((1 : Int) = 3) = false from rfl]
      rw [hnt]
      simp only [A0, FsC10, FsDn0, idR, ew, splice_cons]
      exact UpD.refl _
    · simp only [A0, FsC10, FsDn0, idR, ew, splice_cons]
      simp only [pureD, closedD, closedL, Bool.true_and, Bool.and_true]
      exact h7
theorem v_applyR (s : List DV) (c : Cmd) (h : isSt s) : FnV Try.prog 26 [.agg s, Cmd.D c] (.tup [.agg (applyS s c).1, Reply.D (applyS s c).2]) := by
  have e := h.eq
  refine FnP.ups (args := [.agg s, Cmd.D c]) (?_ : FnV Try.prog 26 [.agg (upCs s), Cmd.D c] (.tup [.agg (applyS s c).1, Reply.D (applyS s c).2])) (UpL.agg (upL_upCs s) (UpL.refl' _))
  rw [e]
  exact v_applyRL _ _ c h.prs h.own
structure FsSD where
  applyR : List DV → Cmd → List DV × Reply
  isSt : List DV → Prop
noncomputable def FsSD0 : FsSD where
  applyR := applyS
  isSt := isSt
def kn_applyR (F : FsSD) : FuncId × (List DV → RV) := (26, fun args => match args with
  | [.agg s, .agg [.d (.sc (.int .i64 c_kind)), .d (.sc (.int .i64 c_client)), .d (.sc (.int .i64 c_seq)), .d (.sc (.string c_key)), .d (.sc (.string c_fin)), .d (.sc (.string c_old)), .d (.sc (.string c_val))]] => some ([F.isSt s], .tup [.agg (((F.applyR s ⟨c_kind, c_client, c_seq, c_key, c_fin, c_old, c_val⟩)).1), Reply.D (((F.applyR s ⟨c_kind, c_client, c_seq, c_key, c_fin, c_old, c_val⟩)).2)])
  | _ => none)
theorem ok_applyR (args : List DV) (cs : List Prop) (r : DV) (h : (kn_applyR FsSD0).2 args = some (cs, r)) (hc : allP cs True) : FnV Try.prog 26 args r ∧ closedL 0 args = true := by
  unfold kn_applyR at h
  simp only at h
  split at h
  · cases h; exact ⟨v_applyR _ ⟨_, _, _, _, _, _, _⟩ hc.1, clo1 (isSt.closed hc.1) rfl⟩
  · cases h
end Go.Proofs.Ytghkcmgiagodlaa
namespace Go.Proofs.Ytghkcmgiagodlaa
open Go.RowKit
set_option linter.all false
set_option maxHeartbeats 4000000
set_option maxRecDepth 100000 in
theorem v_statesL (xs : List (List PD)) (cs : List DV) (ys : List (List PD)) (ds : List DV) (hp0 : isP xs) (hp1 : isOwn cs) (hp2 : isP ys) (hp3 : isOwn ds) : FnV Try.prog 12 [.agg (.d (.slc 3 xs) :: cs), .agg (.d (.slc 3 ys) :: ds)] (boolD (sameS xs cs ys ds)) := by
  have hcl := hp1.len
  have hdl := hp3.len
  have hsx := isP.len hp0
  obtain ⟨os, hos, hcs, hop⟩ := hp1
  obtain ⟨qs, hqs, hds, hqp⟩ := hp3
  obtain ⟨ps, hxs, hl⟩ := hp0
  obtain ⟨rs, hys, hm⟩ := hp2
  have hlx : xs.length = ps.length := by rw [hxs]; exact pairsX_length ps
  have hly : ys.length = rs.length := by rw [hys]; exact pairsX_length rs
  obtain ⟨GFsOw, hGFsOw⟩ : ∃ F, F = FsOw0 := ⟨_, rfl⟩
  have hH : SoundK Try.prog [kn_replies GFsOw] := by subst hGFsOw; exact orK_ok ok_replies noK_ok
  refine FnD_cbv (T := fun _ => tabY [0, 1, 24, 29, 38, 39, 43, 44, 50, 51, 55, 56] []) (H := fun _ => [kn_replies GFsOw]) (tabY_ok _ _) hH follows_mixed Try.func12 rfl Try.ntmps12 (by simp) fun A X W hA hX hW => ?_
  cbv
  refine ⟨by subst hA; show (_ :: cs).length ≤ 1000000; rw [List.length_cons, hcl]; decide, by subst hA; show (_ :: ds).length ≤ 1000000; rw [List.length_cons, hdl]; decide, ?_⟩
  repeat' (refine And.intro ?_ ?_)
  rotate_right
  refine part (fun h => ?_) (fun h => ?_) <;> cbv
  · subst hA hX hW hGFsOw
    refine ret_v (congrArg boolD ?_) rfl
    refine (@decide_eq_false _ (Classical.propDecidable _) fun e => ?_).symm
    simp only [A0, e.1] at h
    simp at h
  · refine loopL (T := fun _ => tabY [0, 1, 24, 29, 38, 39, 43, 44, 50, 51, 55, 56] []) (H := fun _ => [kn_replies GFsOw]) (tabY_ok _ _) hH follows_mixed hA hX (fun i : Int => 0 ≤ i ∧ i ≤ ps.length ∧ ps.take i.toNat = rs.take i.toNat)
      (fun i => [(2, .ref 0 0 0), (3, .ref 1 0 0), (5, .d (.sc (.int .i64 i)))]) (fun _ => [⟨34, .d (.slc 3 xs) :: cs, false, 0, true⟩, ⟨34, .d (.slc 3 ys) :: ds, false, 0, true⟩])
      (fun i => (ps.length : Int).toNat - i.toNat) 0 ?_ ?_ ?_
    · exact ⟨by omega, by omega, by simp⟩
    · exact told_less ⟨.inl rfl, .inl rfl, .inl rfl, trivial⟩
    rintro R i hR ⟨i0, i1, i2⟩
    cbv
    refine part (fun h2 => ?_) (fun h2 => ?_) <;> cbv
    · replace hlx : xs.length = ps.length := hlx
      replace hly : ys.length = rs.length := hly
      replace i0 : 0 ≤ i := i0
      replace hl : ps.length ≤ 4194304 := hl
      have hlr : ps.length = rs.length := by
        have h9 : A.cmp .neq (A.len xs) (A.len ys) = false := h
        subst hA
        simp [A0] at h9
        omega
      have hi : i < (ps.length : Int) := by
        have h9 : A.cmp .lss i (A.len xs) = true := h2
        subst hA
        simp only [A0, decide_eq_true_eq] at h9
        omega
      have hj : i < (rs.length : Int) := by omega
      have hrx := prow hxs i0 hi
      have hry := prow hys i0 hj
      have hdx := List.take_succ_eq_append_getElem (show i.toNat < ps.length by omega)
      have hdy := List.take_succ_eq_append_getElem (show i.toNat < rs.length by omega)
      have hgx : ps[i.toNat]? = some (ps[i.toNat]'(by omega)) := List.getElem?_eq_getElem _
      have hgy : rs[i.toNat]? = some (rs[i.toNat]'(by omega)) := List.getElem?_eq_getElem _
      generalize ps[i.toNat]'(by omega) = p at hrx hdx hgx
      generalize rs[i.toNat]'(by omega) = q at hry hdy hgy
      repeat' first
        | (refine part (fun h3 => ?_) (fun h3 => ?_) <;> try cbv)
        | (refine And.intro ?_ ?_)
      all_goals subst hA hX hW hR hGFsOw
      all_goals first
        | (show Region.lexB _ _ = true; kernel_rfl)
        | exact rfl
        | (show 0 ≤ i ∧ i < (xs.length : Int); omega)
        | (show 0 ≤ i ∧ i < (ys.length : Int); omega)
        | (simp only [A0, hrx]; simp [Pair.row]; done)
        | (simp only [A0, hry]; simp [Pair.row]; done)
        | skip
      · refine ret_v (congrArg boolD ?_) rfl
        refine (@decide_eq_false _ (Classical.propDecidable _) fun e => ?_).symm
        have e6 : ps = rs := by rw [← pairsOf_X ps, ← pairsOf_X rs, ← hxs, ← hys, e.1]
        subst e6
        rw [hgx] at hgy
        have e7 : p = q := Option.some.inj hgy
        subst e7
        simp only [A0, hrx, hry] at h3
        simp [Pair.row] at h3
      · have e7 : p = q := by
          simp only [A0, hrx, hry] at h3
          simp [Pair.row] at h3
          obtain ⟨p1, p2, p3⟩ := p
          obtain ⟨q1, q2, q3⟩ := q
          simp_all
        have hi' : i < (ps.length : Int) := hi
        have hl' : ps.length ≤ 4194304 := hl
        have i0' : 0 ≤ i := i0
        have hw : IntKind.wrap .i64 (i + 1) = i + 1 := wrap_i64 (by unfold r64; omega)
        refine ⟨i + 1, ⟨by show 0 ≤ i + 1; omega, by show i + 1 ≤ (ps.length : Int); omega, ?_⟩, by show (ps.length : Int).toNat - (i + 1).toNat < (ps.length : Int).toNat - i.toNat; omega, told_less ?_⟩
        · rw [show (i + 1).toNat = i.toNat + 1 by omega, hdx, hdy, i2, e7]
        · simp [toldP, getS, A0, hw]
    · replace hlx : xs.length = ps.length := hlx
      replace hly : ys.length = rs.length := hly
      have hxy : xs = ys := by
        have h8 : A.cmp .neq (A.len xs) (A.len ys) = false := h
        have h9 : A.cmp .lss i (A.len xs) = false := h2
        subst hA
        simp [A0] at h8 h9
        replace i1 : i ≤ (ps.length : Int) := i1
        have hil : i.toNat = ps.length := by omega
        rw [hil, List.take_length, show ps.length = rs.length by omega, List.take_length] at i2
        rw [hxs, hys, i2]
      clear i0 i1 i2 hR R
      refine loopL (T := fun _ => tabY [0, 1, 24, 29, 38, 39, 43, 44, 50, 51, 55, 56] []) (H := fun _ => [kn_replies GFsOw]) (tabY_ok _ _) hH follows_mixed hA hX (fun i : Int => 0 ≤ i ∧ i ≤ 8 ∧ os.take i.toNat = qs.take i.toNat)
        (fun i => [(2, .ref 0 0 0), (3, .ref 1 0 0), (6, .d (.sc (.int .i64 i)))]) (fun _ => [⟨34, .d (.slc 3 xs) :: cs, false, 0, true⟩, ⟨34, .d (.slc 3 ys) :: ds, false, 0, true⟩])
        (fun i => 8 - i.toNat) 0 ?_ ?_ ?_
      · exact ⟨by omega, by omega, rfl⟩
      · exact told_less ⟨.inl rfl, .inl rfl, .inl rfl, trivial⟩
      rintro R i hR ⟨i0, i1, i2⟩
      cbv
      refine part (fun h2 => ?_) (fun h2 => ?_) <;> cbv
      · replace i0 : 0 ≤ i := i0
        replace hos : os.length = 8 := hos
        replace hqs : qs.length = 8 := hqs
        have hi : i < 8 := by
          have h9 : A.cmp .lss i 8 = true := h2
          subst hA
          simpa [A0] using h9
        have hin : i.toNat < os.length := by omega
        have hiq : i.toNat < qs.length := by omega
        obtain ⟨g0, g1, g2, g3, g4, g5, u2, u3, u4, u5, gs1, gt, gt1, gl⟩ := st_cell (.d (.slc 3 xs)) hcs i.toNat hin
        obtain ⟨q0, q1, q2, q3, q4, q5, r2, r3, r4, r5, qs1, qt, qt1, ql⟩ := st_cell (.d (.slc 3 ys)) hds i.toNat hiq
        have hto := List.take_succ_eq_append_getElem hin
        have htq := List.take_succ_eq_append_getElem hiq
        have hgo : os[i.toNat]? = some (os[i.toNat]'hin) := List.getElem?_eq_getElem hin
        have hgq : qs[i.toNat]? = some (qs[i.toNat]'hiq) := List.getElem?_eq_getElem hiq
        have ho := hop _ (List.getElem_mem hin)
        have hq := hqp _ (List.getElem_mem hiq)
        generalize os[i.toNat]'hin = o at g0 g1 g2 g3 g4 g5 u2 u3 u4 u5 gs1 gt gt1 ho hto hgo
        generalize qs[i.toNat]'hiq = q at q0 q1 q2 q3 q4 q5 r2 r3 r4 r5 qs1 qt qt1 hq htq hgq
        repeat' first
          | (refine part (fun h3 => ?_) (fun h3 => ?_) <;> try cbv)
          | (refine And.intro ?_ ?_)
        all_goals subst hA hX hW hR hGFsOw
        all_goals first
          | (show Region.lexB _ _ = true; kernel_rfl)
          | (intro hq; exact hq)
          | (intro hq; simpa [A0] using hq)
          | exact ⟨i0, hi⟩
          | exact fun _ => ⟨i0, hi⟩
          | exact rfl
          | exact fun _ => rfl
          | (simp only [A0, Nat.add_zero, g0, gs1]; exact ⟨rfl, by omega, trivial⟩)
          | (simp only [A0, Nat.add_zero, q0, qs1]; exact ⟨rfl, by omega, trivial⟩)
          | (intro _; simp only [A0, Nat.add_zero, g1, g2, g3, g4, g5, gt1]; exact ⟨rfl, by omega, trivial⟩)
          | (intro _; simp only [A0, Nat.add_zero, q1, q2, q3, q4, q5, qt1]; exact ⟨rfl, by omega, trivial⟩)
          | (intro _; show isP _; simp only [A0, g5]; exact ho)
          | (intro _; show isP _; simp only [A0, q5]; exact hq)
          | skip
        all_goals simp only [A0, FsOw0, Nat.add_zero, g0, g1, g2, g3, g4, g5, q0, q1, q2, q3, q4, q5] at h3
        · refine ret_v (congrArg boolD ?_) rfl
          refine (@decide_eq_false _ (Classical.propDecidable _) fun e => ?_).symm
          have e2 := (ownsD_inj (hos.trans hqs.symm)).1 (hcs.symm.trans (e.2.trans hds))
          subst e2
          rw [hgo] at hgq
          cases hgq
          simp [repliesX] at h3
        · have hoq : o = q := by
            obtain ⟨o1, o2⟩ := o
            obtain ⟨p1, p2⟩ := q
            by_cases e1 : o1 = p1
            · subst e1
              simp only [decide_true, Bool.not_true, cond_false, Bool.not_eq_false'] at h3
              exact congrArg _ (repliesX_iff.1 h3)
            · simp [e1] at h3
          have hw : IntKind.wrap .i64 (i + 1) = i + 1 := wrap_i64 (by unfold r64; omega)
          refine ⟨i + 1, ⟨by omega, by omega, ?_⟩, by omega, told_less ?_⟩
          · rw [show (i + 1).toNat = i.toNat + 1 by omega, hto, htq, i2, hoq]
          · simp [toldP, getS, A0, hw]
      · have hi : ¬ i < 8 := by
          have h9 : A.cmp .lss i 8 = false := h2
          subst hA
          simpa [A0] using h9
        replace i0 : 0 ≤ i := i0
        replace i1 : i ≤ 8 := i1
        have i8 : i = 8 := by omega
        subst i8
        replace hos : os.length = 8 := hos
        replace hqs : qs.length = 8 := hqs
        have e : os = qs := by
          have t1 : os.take 8 = qs.take 8 := i2
          rwa [List.take_of_length_le (by omega), List.take_of_length_le (by omega)] at t1
        have e2 : cs = ds := by rw [hcs, hds, e]
        subst hA hX hW hR hGFsOw
        refine ret_v (congrArg boolD ?_) rfl
        exact (@decide_eq_true _ (Classical.propDecidable _) ⟨hxy, e2⟩).symm
  all_goals subst hA
  all_goals first
    | exact rfl
    | trace_state
theorem v_statesR (s t : List DV) (h : isSt s) (h2 : isSt t) : FnV Try.prog 12 [.agg s, .agg t] (boolD (sameSt s t)) := by
  have e := h.eq
  have e2 := h2.eq
  refine FnP.ups (args := [.agg s, .agg t]) (?_ : FnV Try.prog 12 [.agg (upCs s), .agg (upCs t)] (boolD (sameSt s t))) (UpL.agg (upL_upCs s) (UpL.agg (upL_upCs t) UpL.done))
  rw [e, e2]
  exact v_statesL _ _ _ _ h.prs h.own h2.prs h2.own
structure FsSE where
  statesR : List DV → List DV → Bool
  isSt : List DV → Prop
noncomputable def FsSE0 : FsSE where
  statesR := sameSt
  isSt := isSt
def kn_statesR (F : FsSE) : FuncId × (List DV → RV) := (12, fun args => match args with
  | [.agg s, .agg t] => some ([F.isSt s, F.isSt t], boolD ((F.statesR s t)))
  | _ => none)
theorem ok_statesR (args : List DV) (cs : List Prop) (r : DV) (h : (kn_statesR FsSE0).2 args = some (cs, r)) (hc : allP cs True) : FnV Try.prog 12 args r ∧ closedL 0 args = true := by
  unfold kn_statesR at h
  simp only at h
  split at h
  · cases h; exact ⟨v_statesR _ _ hc.1 hc.2.1, clo1 (isSt.closed hc.1) (clo1 (isSt.closed hc.2.1) rfl)⟩
  · cases h
end Go.Proofs.Ytghkcmgiagodlaa
namespace Go.Proofs.Ytghkcmgiagodlaa
open Go.RowKit
set_option linter.all false
/-- The bytes of a number: sevens of bits, the lowest first. -/
def numF : Nat → Nat → List UInt8
  | 0, _ => []
  | f + 1, u => if u < 128 then [UInt8.ofNat u] else UInt8.ofNat (u % 128 + 128) :: numF f (u / 128)
def zig (n : Int) : Int := if n < 0 then -2 * n - 1 else 2 * n
def numB (n : Int) : List UInt8 := numF 10 (zig n).toNat
theorem zig_range {n : Int} (h : r64 n) : 0 ≤ zig n ∧ zig n < 18446744073709551616 := by unfold r64 at h; unfold zig; split <;> omega
structure FsPz where
  zig : Int → Int
  r64 : Int → Prop
theorem numF_step (f u : Nat) (h : ¬ u < 128) : numF (f + 1) u = UInt8.ofNat (u % 128 + 128) :: numF f (u / 128) := by rw [numF, if_neg h]
theorem numF_last (f u : Nat) (h : u < 128) : numF (f + 1) u = [UInt8.ofNat u] := by rw [numF, if_pos h]
theorem fdiv128 (u : Nat) : (u : Int).fdiv (2 ^ min (Int.toNat 7) (IntKind.bits .u64)) = ((u / 128 : Nat) : Int) := by
  rw [show (2 : Int) ^ min (Int.toNat 7) (IntKind.bits .u64) = 128 by decide, Int.fdiv_eq_ediv_of_nonneg _ (by omega)]
  rfl
theorem low8 (u : Nat) (h : u < 128) : IntKind.wrap .u8 (u : Int) = ((UInt8.ofNat u).toNat : Int) := by
  simp [IntKind.wrap, IntKind.bits, IntKind.signed]
theorem or128f : ∀ x : Fin 256, bitsV .u8 (· ||| ·) (x.val : Int) 128 = (((UInt8.ofNat (x.val % 128 + 128)).toNat : Nat) : Int) := by decide +kernel
theorem wrap64_of {a : Int} (h0 : 0 ≤ a) (h : a < 18446744073709551616) : IntKind.wrap .u64 a = a := by
  simp [IntKind.wrap, IntKind.bits, IntKind.signed]
  omega
theorem xor_zero (a : Int) (h0 : 0 ≤ a) (h : a < 18446744073709551616) : bitsV .u64 (· ^^^ ·) a 0 = a := by
  obtain ⟨n, rfl⟩ := Int.eq_ofNat_of_zero_le h0
  have e : BitVec.ofInt 64 (n : Int) ^^^ BitVec.ofInt 64 0 = BitVec.ofNat 64 n := by
    rw [show BitVec.ofInt 64 0 = 0#64 from rfl, BitVec.xor_zero]
    simp
  show IntKind.wrap .u64 ((BitVec.ofInt 64 (n : Int) ^^^ BitVec.ofInt 64 0).toNat : Int) = n
  rw [e, BitVec.toNat_ofNat, Nat.mod_eq_of_lt (by omega)]
  exact wrap64_of h0 h
theorem w_grown (bs : List UInt8) (xs : List (List PD)) (n : Int) (hxs : xs = bytesP bs) (h0 : 0 ≤ n) (hn : n ≤ 8388608) (hb : bs.length ≤ 8388608) : FnD Try.prog 79 [.d (.slc 1 xs), intD n] [] (fun r st' => ∃ cs m, cs = rowsD (bytesP bs) ∧ m = bs.length ∧ r = .view 1 0 1 0 m ∧ st' = [⟨5, cs, true, 1, true⟩]) := by
  refine FnD_cbv (T := fun _ => tabY [] []) (H := fun _ => []) (tabY_ok _ _) noK_ok follows_mixed Try.func79 rfl Try.ntmps79 (by simp) fun A X W hA hX hW => ?_
  cbv
  have hl : xs.length = bs.length := by rw [hxs]; exact bytesP_length bs
  repeat' first
    | (refine And.intro ?_ ?_)
  all_goals subst hA hX hW
  · simp only [A0]
    rw [hl]
    simp [IntKind.wrap, IntKind.bits, IntKind.signed]
    omega
  · rfl
  · simp [A0]
  · simp only [A0]
    omega
  · refine RetW.refl ⟨_, _, ?_, ?_, rfl, rfl⟩
    · simp [A0, hxs]
    · simp [A0, hl]
theorem numF_length : ∀ (f u : Nat), (numF f u).length ≤ f
  | 0, _ => Nat.le_refl 0
  | f + 1, u => by
      unfold numF
      split
      · simp
      · have := numF_length f (u / 128)
        simp only [List.length_cons]
        omega
theorem numB_length (n : Int) : (numB n).length ≤ 10 := numF_length 10 _
/-- Plain bytes, not too many. -/
def isB (xs : List (List PD)) : Prop := ∃ bs, xs = bytesP bs ∧ bs.length ≤ 8000000
noncomputable def numX (xs : List (List PD)) (n : Int) : List (List PD) := xs ++ bytesP (numB n)
def textB (s : ByteArray) : List UInt8 := numB s.size ++ s.data.toList
noncomputable def textX (xs : List (List PD)) (s : ByteArray) : List (List PD) := xs ++ bytesP (textB s)
noncomputable def flagX (xs : List (List PD)) (b : Bool) : List (List PD) := xs ++ bytesP [if b then 1 else 0]
def szT (s : ByteArray) : Prop := s.size ≤ 4194304
theorem ret_bytes {r : DV} {st : Store} {b ver n ty : Nat} {e : Bool} {cs : List DV} {bs : List UInt8} (hb : st[b]? = some ⟨ty, cs, e, ver, true⟩) (hn : n = bs.length) (hcells : cs = rowsD (bytesP bs)) (hr : r = .d (.slc 1 (bytesP bs))) :
    RetW 0 (fun x st => st = [] ∧ pureD x = true ∧ x = r) (.view 1 b ver 0 n) st :=
  ret_slice hb rfl rfl (by rw [bytesP_length]; exact hn) hcells (by intro x hx; simp only [bytesP, List.mem_map] at hx; obtain ⟨_, _, rfl⟩ := hx; rfl) hr
def within3 (n lo hi : Int) : Int := lo + n % (hi - lo + 1)
def span3 (lo hi : Int) : Prop := lo ≤ hi ∧ -1099511627776 ≤ lo ∧ hi ≤ 1099511627776
noncomputable def sameB (xs ys : List (List PD)) : Bool := @decide (xs = ys) (Classical.propDecidable _)
theorem tmod_cases (n W : Int) (hW : 0 < W) : (n.tmod W < 0 → n.tmod W + W = n % W) ∧ (¬ n.tmod W < 0 → n.tmod W = n % W) := by
  have h1 := Int.emod_nonneg n (show W ≠ 0 by omega)
  have h2 := Int.emod_lt_of_pos n hW
  rw [Int.tmod_eq_emod]
  have h3 : ((W.natAbs : Nat) : Int) = W := by omega
  split
  · omega
  · rw [h3]; omega
theorem rowB {bs : List UInt8} {xs : List (List PD)} (hxs : xs = bytesP bs) {i : Int} (h0 : 0 ≤ i) (h1 : i < bs.length) : xs.getD i.toNat [] = [.sc (.int .u8 ((bs[i.toNat]'(by omega)).toNat : Int))] := by
  subst hxs
  have : i.toNat < bs.length := by omega
  simp [bytesP, List.getD_eq_getElem?_getD, this]
structure FsPq where
  num : List (List PD) → Int → List (List PD)
  text : List (List PD) → ByteArray → List (List PD)
  flag : List (List PD) → Bool → List (List PD)
  sameB : List (List PD) → List (List PD) → Bool
  within3 : Int → Int → Int → Int
  isB : List (List PD) → Prop
  r64 : Int → Prop
  sz : ByteArray → Prop
  span3 : Int → Int → Prop
noncomputable def FsPq0 : FsPq where
  num := numX
  text := textX
  flag := flagX
  sameB := sameB
  within3 := within3
  isB := isB
  r64 := r64
  sz := szT
  span3 := span3
set_option maxRecDepth 100000 in
theorem v_within3 (n : Int) (lo : Int) (hi : Int) (hp0 : FsPq0.r64 n) (hp1 : FsPq0.span3 lo hi) : FnV Try.prog 21 [intD n, intD lo, intD hi] (intD ((within3 n lo hi))) := by
  refine FnD_cbv (T := fun _ => tabY [] []) (H := fun _ => []) (tabY_ok _ _) noK_ok follows_mixed Try.func21 rfl Try.ntmps21 (by simp) fun A X W hA hX hW => ?_
  cbv
  repeat' first
    | (refine part (fun h => ?_) (fun h => ?_) <;> try cbv)
    | (refine And.intro ?_ ?_)
  all_goals subst hA hX hW
  all_goals try (show Region.lexB _ _ = true; kernel_rfl)
  all_goals try (show turnsB _ = true; kernel_rfl)
  all_goals simp only [A0, FsPq0, decide_eq_true_eq, decide_eq_false_iff_not, Bool.not_eq_true', Bool.not_eq_false'] at *
  all_goals
    have hr : r64 n := hp0
    have hs : span3 lo hi := hp1
    unfold span3 at hs
    have e1 : IntKind.wrap .i64 (hi - lo) = hi - lo := wrap_i64 (by unfold r64; omega)
    have e2 : IntKind.wrap .i64 (hi - lo + 1) = hi - lo + 1 := wrap_i64 (by unfold r64; omega)
    have hc := tmod_cases n (hi - lo + 1) (by omega)
    have h1 := Int.emod_nonneg n (show hi - lo + 1 ≠ 0 by omega)
    have h2 := Int.emod_lt_of_pos n (show 0 < hi - lo + 1 by omega)
    simp only [e1, e2] at *
  · omega
  · refine ret_v ?_ rfl
    have h3 := hc.1 h
    have e3 : IntKind.wrap .i64 (n.tmod (hi - lo + 1) + hi) = n.tmod (hi - lo + 1) + hi := wrap_i64 (by unfold r64; omega)
    have e4 : IntKind.wrap .i64 (n.tmod (hi - lo + 1) + hi - lo) = n.tmod (hi - lo + 1) + hi - lo := wrap_i64 (by unfold r64; omega)
    have e5 : IntKind.wrap .i64 (n.tmod (hi - lo + 1) + hi - lo + 1) = n % (hi - lo + 1) := by rw [wrap_i64 (by unfold r64; omega)]; omega
    have e6 : IntKind.wrap .i64 (lo + n % (hi - lo + 1)) = lo + n % (hi - lo + 1) := wrap_i64 (by unfold r64; omega)
    rw [e3, e4, e5, e6]
    rfl
  · refine ret_v ?_ rfl
    rw [hc.2 h]
    have e6 : IntKind.wrap .i64 (lo + n % (hi - lo + 1)) = lo + n % (hi - lo + 1) := wrap_i64 (by unfold r64; omega)
    rw [e6]
    rfl
def kn_within3 (F : FsPq) : FuncId × (List DV → RV) := (21, fun args => match args with
  | [.d (.sc (.int .i64 n)), .d (.sc (.int .i64 lo)), .d (.sc (.int .i64 hi))] => some ([F.r64 n, F.span3 lo hi], intD ((F.within3 n lo hi)))
  | _ => none)
theorem ok_within3 (args : List DV) (cs : List Prop) (r : DV) (h : (kn_within3 FsPq0).2 args = some (cs, r)) (hc : allP cs True) : FnV Try.prog 21 args r ∧ closedL 0 args = true := by
  unfold kn_within3 at h
  simp only at h
  split at h
  · cases h; exact ⟨v_within3 _ _ _ hc.1 hc.2.1, rfl⟩
  · cases h
set_option maxRecDepth 100000 in
theorem v_sameB (xs : List (List PD)) (ys : List (List PD)) (hp0 : FsPq0.isB xs) (hp1 : FsPq0.isB ys) : FnV Try.prog 14 [.d (.slc 1 xs), .d (.slc 1 ys)] (boolD ((sameB xs ys))) := by
  obtain ⟨bs, hxs, hb⟩ := hp0
  obtain ⟨ds, hys, hd⟩ := hp1
  have hlx : xs.length = bs.length := by rw [hxs]; exact bytesP_length bs
  have hly : ys.length = ds.length := by rw [hys]; exact bytesP_length ds
  have heq : xs = ys ↔ bs = ds := by rw [hxs, hys]; exact bytesP_inj
  refine FnD_cbv (T := fun _ => tabY [19, 23] []) (H := fun _ => []) (tabY_ok _ _) noK_ok follows_mixed Try.func14 rfl Try.ntmps14 (by simp) fun A X W hA hX hW => ?_
  cbv
  refine part (fun h => ?_) (fun h => ?_)
  · cbv
    subst hA hX hW
    simp only [A0] at h
    refine ret_v ?_ rfl
    have hne : ¬ xs = ys := by
      intro e
      subst e
      simp at h
    simp [boolD, sameB, hne]
  · cbv
    refine loopL (T := fun _ => tabY [19, 23] []) (H := fun _ => []) (tabY_ok _ _) noK_ok follows_mixed hA hX (fun i : Int => 0 ≤ i ∧ i ≤ bs.length ∧ bs.take i.toNat = ds.take i.toNat)
      (fun i => [(0, .d (.slc 1 xs)), (1, .d (.slc 1 ys)), (5, .d (.sc (.int .i64 i)))]) (fun _ => [])
      (fun i => (bs.length : Int).toNat - i.toNat) 0 ?_ ?_ ?_
    · exact ⟨by omega, by omega, by simp⟩
    · exact told_less (by simp [toldP, getS])
    rintro R i hR ⟨i0, i1, i2⟩
    cbv
    have hlen : bs.length = ds.length := by
      subst hA
      simp only [A0] at h
      simp only [Bool.not_eq_false', decide_eq_true_eq] at h
      omega
    refine part (fun h2 => ?_) (fun h2 => ?_)
    · cbv
      have hi : i < bs.length := by
        subst hA
        simp only [A0, decide_eq_true_eq] at h2
        omega
      have hj : i.toNat < bs.length := by omega
      have hj2 : i.toNat < ds.length := by omega
      have hrx : xs.getD i.toNat [] = [.sc (.int .u8 ((bs[i.toNat]'hj).toNat : Int))] := rowB hxs i0 hi
      have hry : ys.getD i.toNat [] = [.sc (.int .u8 ((ds[i.toNat]'hj2).toNat : Int))] := rowB hys i0 (by omega)
      refine And.intro ?_ (And.intro ?_ (And.intro ?_ (And.intro ?_ (And.intro ?_ ?_))))
      · subst hA; show Region.lexB _ _ = true; kernel_rfl
      · subst hA; simp only [A0]; omega
      · subst hA; simp only [A0, hrx]; simp
      · subst hA; simp only [A0]; omega
      · subst hA; simp only [A0, hry]; simp
      · have key : A.gi (A.lift (A.row xs i)) 0 = ((bs[i.toNat]'hj).toNat : Int) ∧ A.gi (A.lift (A.row ys i)) 0 = ((ds[i.toNat]'hj2).toNat : Int) := by
          subst hA
          simp only [A0, hrx, hry]
          simp
        refine part (fun h3 => ?_) (fun h3 => ?_)
        · cbv
          subst hA hX hW hR
          have h4 : A0.cmp .neq (A0.gi (A0.lift (A0.row xs i)) 0) (A0.gi (A0.lift (A0.row ys i)) 0) = true := h3
          rw [key.1, key.2] at h4
          refine ret_v ?_ rfl
          have hne : ¬ xs = ys := by
            intro e
            have e2 := heq.1 e
            subst e2
            simp [A0] at h4
          simp [boolD, sameB, hne]
        · cbv
          subst hA hX hW hR
          have h4 : A0.cmp .neq (A0.gi (A0.lift (A0.row xs i)) 0) (A0.gi (A0.lift (A0.row ys i)) 0) = false := h3
          rw [key.1, key.2] at h4
          have he : bs[i.toNat]'hj = ds[i.toNat]'hj2 := by
            have h5 : ((bs[i.toNat]'hj).toNat : Int) = ((ds[i.toNat]'hj2).toNat : Int) := by
              simp only [A0, Bool.not_eq_false', decide_eq_true_eq] at h4
              exact h4
            exact UInt8.toNat_inj.1 (Int.ofNat.inj h5)
          have hw : IntKind.wrap .i64 (i + 1) = i + 1 := wrap_i64 (by unfold r64; omega)
          refine ⟨i + 1, ⟨by omega, by omega, ?_⟩, ?_, told_less ?_⟩
          · rw [show (i + 1).toNat = i.toNat + 1 by omega, List.take_succ_eq_append_getElem hj, List.take_succ_eq_append_getElem hj2, i2, he]
          · simp only [Int.toNat_natCast]
            omega
          · simp [toldP, getS, A0, hw]
    · cbv
      subst hA hX hW hR
      simp only [A0, decide_eq_false_iff_not] at h2
      replace h2 : ¬ i < (xs.length : Int) := h2
      replace i1 : i ≤ (bs.length : Int) := i1
      refine ret_v ?_ rfl
      have hil : i.toNat = bs.length := by omega
      rw [hil, List.take_length] at i2
      have e : xs = ys := heq.2 (by rw [i2, hlen, List.take_length])
      simp [boolD, sameB, e]
def kn_sameB (F : FsPq) : FuncId × (List DV → RV) := (14, fun args => match args with
  | [.d (.slc 1 xs), .d (.slc 1 ys)] => some ([F.isB xs, F.isB ys], boolD ((F.sameB xs ys)))
  | [.d (.sc (.slice none 0 0)), .d (.slc 1 ys)] => some ([F.isB [], F.isB ys], boolD ((F.sameB [] ys)))
  | [.d (.slc 1 xs), .d (.sc (.slice none 0 0))] => some ([F.isB xs, F.isB []], boolD ((F.sameB xs [])))
  | [.d (.sc (.slice none 0 0)), .d (.sc (.slice none 0 0))] => some ([F.isB [], F.isB []], boolD ((F.sameB [] [])))
  | _ => none)
theorem ok_sameB (args : List DV) (cs : List Prop) (r : DV) (h : (kn_sameB FsPq0).2 args = some (cs, r)) (hc : allP cs True) : FnV Try.prog 14 args r ∧ closedL 0 args = true := by
  unfold kn_sameB at h
  simp only at h
  split at h
  · cases h; exact ⟨v_sameB _ _ hc.1 hc.2.1, rfl⟩
  · cases h; exact ⟨FnP.nils (v_sameB [] _ hc.1 hc.2.1) ⟨.inr ⟨rfl, _, rfl⟩, ⟨.inl rfl, trivial⟩⟩, rfl⟩
  · cases h; exact ⟨FnP.nils (v_sameB _ [] hc.1 hc.2.1) ⟨.inl rfl, ⟨.inr ⟨rfl, _, rfl⟩, trivial⟩⟩, rfl⟩
  · cases h; exact ⟨FnP.nils (v_sameB [] [] hc.1 hc.2.1) ⟨.inr ⟨rfl, _, rfl⟩, ⟨.inr ⟨rfl, _, rfl⟩, trivial⟩⟩, rfl⟩
  · cases h
end Go.Proofs.Ytghkcmgiagodlaa
namespace Go.Proofs.Ytghkcmgiagodlaa
open Go.RowKit
set_option linter.all false
/-- What the bytes from a place on tell as a number. -/
inductive Got where
  | short
  | form
  | num (u k : Nat)
def sev : Nat → Nat → List UInt8 → Got
  | _, _, [] => .short
  | i, u, c :: l => if (0 < i ∧ c.toNat = 0) ∨ (i = 9 ∧ 1 < c.toNat) then .form else if c.toNat < 128 then .num (u + c.toNat % 128 * 2 ^ (7 * i)) (i + 1) else sev (i + 1) (u + c.toNat % 128 * 2 ^ (7 * i)) l
def zagI (u : Int) : Int := if u % 2 = 1 then -(u / 2) - 1 else u / 2
def u64 (u : Int) : Prop := 0 ≤ u ∧ u < 18446744073709551616
/-- A number, read: the answer, the place behind, the error. -/
def numL (bs : List UInt8) (a w : Int) : Int × Int × Int :=
  if w ≠ 0 then (0, a, w) else match sev 0 0 (bs.drop a.toNat) with
    | .short => (0, a, 3)
    | .form => (0, a, 4)
    | .num u k => (zagI u, a + k, 0)
def numR (xs : List (List PD)) (a w : Int) : Int × Int × Int := numL (bytesOf xs) a w
def cntL (bs : List UInt8) (a w most : Int) : Int × Int × Int :=
  if (numL bs a w).2.2 = 0 ∧ ((numL bs a w).1 < 0 ∨ most < (numL bs a w).1) then (0, a, 2) else numL bs a w
def cntR (xs : List (List PD)) (a w most : Int) : Int × Int × Int := cntL (bytesOf xs) a w most
def textL (bs : List UInt8) (a w most : Int) : ByteArray × Int × Int :=
  if (cntL bs a w most).2.2 ≠ 0 then (.empty, (cntL bs a w most).2.1, (cntL bs a w most).2.2) else
    if (bs.length : Int) - (cntL bs a w most).2.1 < (cntL bs a w most).1 then (.empty, a, 3) else
      (⟨((bs.drop (cntL bs a w most).2.1.toNat).take (cntL bs a w most).1.toNat).toArray⟩, (cntL bs a w most).2.1 + (cntL bs a w most).1, 0)
def textR (xs : List (List PD)) (a w most : Int) : ByteArray × Int × Int := textL (bytesOf xs) a w most
def flagL (bs : List UInt8) (a w : Int) : Bool × Int × Int :=
  if w ≠ 0 then (false, a, w) else match bs[a.toNat]? with
    | none => (false, a, 3)
    | some c => if 1 < (c.toNat : Int) then (false, a, 4) else (decide ((c.toNat : Int) = 1), a + 1, 0)
def flagR (xs : List (List PD)) (a w : Int) : Bool × Int × Int := flagL (bytesOf xs) a w
def endR (xs : List (List PD)) (a w : Int) : Int := if w = 0 ∧ a < xs.length then 5 else w
def errR (w e : Int) : Int := if w = 0 then e else w
theorem err0 (e : Int) : errR 0 e = e := by simp [errR]
def failR (w : Int) : Int := if w = 0 then 4 else w
/-- A reader's cells are right: bytes, a place in them, an error. -/
def isRd (xs : List (List PD)) (a w : Int) : Prop := (∃ bs, xs = bytesP bs ∧ bs.length ≤ 8000000) ∧ 0 ≤ a ∧ a ≤ xs.length ∧ 0 ≤ w ∧ w ≤ 100
abbrev rdB (t : Nat) (xs : List (List PD)) (a w : Int) : Box := ⟨t, [.d (.slc 1 xs), .d (.sc (.int .i64 a)), .d (.sc (.int .i64 w))], false, 0, true⟩
theorem and127f : ∀ x : Fin 256, bitsV .u8 (· &&& ·) (x.val : Int) 127 = ((x.val % 128 : Nat) : Int) := by decide +kernel
theorem ofInt_nat (n : Nat) : BitVec.ofInt 64 (n : Int) = BitVec.ofNat 64 n := by simp
theorem and1 (u : Int) (h : u64 u) : bitsV .u64 (· &&& ·) u 1 = u % 2 := by
  obtain ⟨n, rfl⟩ := Int.eq_ofNat_of_zero_le h.1
  have hn : n < 18446744073709551616 := by have := h.2; omega
  show IntKind.wrap .u64 ((BitVec.ofInt 64 (n : Int) &&& BitVec.ofInt 64 1).toNat : Int) = _
  rw [ofInt_nat, show (BitVec.ofInt 64 1 : BitVec 64) = BitVec.ofNat 64 1 from rfl, BitVec.toNat_and, BitVec.toNat_ofNat, BitVec.toNat_ofNat, Nat.mod_eq_of_lt (show n < 2 ^ 64 by omega), show 1 % 2 ^ 64 = 1 from rfl, Nat.and_one_is_mod]
  rw [wrap64_of (by omega) (by omega)]
  omega
theorem or_add (u w k : Nat) (hu : u < 2 ^ k) (hw : u + w * 2 ^ k < 18446744073709551616) : bitsV .u64 (· ||| ·) (u : Int) ((w * 2 ^ k : Nat) : Int) = ((u + w * 2 ^ k : Nat) : Int) := by
  show IntKind.wrap .u64 ((BitVec.ofInt 64 (u : Int) ||| BitVec.ofInt 64 ((w * 2 ^ k : Nat) : Int)).toNat : Int) = _
  rw [ofInt_nat, ofInt_nat, BitVec.toNat_or, BitVec.toNat_ofNat, BitVec.toNat_ofNat, Nat.mod_eq_of_lt (show u < 2 ^ 64 by omega), Nat.mod_eq_of_lt (show w * 2 ^ k < 2 ^ 64 by omega)]
  have := Nat.shiftLeft_add_eq_or_of_lt hu w
  rw [Nat.shiftLeft_eq] at this
  rw [Nat.or_comm, ← this, wrap64_of (by omega) (by omega)]
  omega
theorem xor_i64 (a : Int) (h : r64 a) : bitsV .i64 (· ^^^ ·) a 0 = a ∧ bitsV .i64 (· ^^^ ·) a (-1) = -a - 1 ∧ bitsV .i64 (· ^^^ ·) (-1) a = -a - 1 := by
  have hb : ((BitVec.ofInt 64 a).toNat : Int) = a % 18446744073709551616 := by
    rw [BitVec.toNat_ofInt]
    omega
  have hx : (BitVec.ofInt 64 (-1) : BitVec 64) = BitVec.allOnes 64 := by decide
  unfold r64 at h
  have hn : IntKind.wrap .i64 ((~~~ BitVec.ofInt 64 a).toNat : Int) = -a - 1 := by
    rw [BitVec.toNat_not]
    simp only [IntKind.wrap, IntKind.bits, IntKind.signed]
    simp
    omega
  refine ⟨?_, ?_, ?_⟩
  · show IntKind.wrap .i64 ((BitVec.ofInt 64 a ^^^ BitVec.ofInt 64 0).toNat : Int) = a
    rw [show BitVec.ofInt 64 0 = 0#64 from rfl, BitVec.xor_zero, hb]
    simp only [IntKind.wrap, IntKind.bits, IntKind.signed]
    simp
    omega
  · show IntKind.wrap .i64 ((BitVec.ofInt 64 a ^^^ BitVec.ofInt 64 (-1)).toNat : Int) = _
    rw [hx, BitVec.xor_allOnes, hn]
  · show IntKind.wrap .i64 ((BitVec.ofInt 64 (-1) ^^^ BitVec.ofInt 64 a).toNat : Int) = _
    rw [hx, BitVec.allOnes_xor, hn]
theorem zag_range (u : Int) (h : u64 u) : r64 (zagI u) := by
  unfold u64 at h
  unfold zagI r64
  split <;> omega
theorem half (u : Int) (h : u64 u) : u.fdiv (2 ^ min (Int.toNat 1) (IntKind.bits .u64)) = u / 2 ∧ r64 (u / 2) := by
  unfold u64 at h
  refine ⟨?_, by unfold r64; omega⟩
  rw [show (2 : Int) ^ min (Int.toNat 1) (IntKind.bits .u64) = 2 by decide, Int.fdiv_eq_ediv_of_nonneg _ (by omega)]
theorem zag_bits (u : Int) (h : u64 u) : bitsV .i64 (· ^^^ ·) (IntKind.wrap .i64 (u.fdiv (2 ^ min (Int.toNat 1) (IntKind.bits .u64)))) (IntKind.wrap .i64 (0 - IntKind.wrap .i64 (bitsV .u64 (· &&& ·) u 1))) = zagI u := by
  rw [(half u h).1, and1 u h, wrap_i64 (half u h).2]
  have hx := xor_i64 _ (half u h).2
  unfold zagI
  rcases (show u % 2 = 0 ∨ u % 2 = 1 by omega) with e | e
  · rw [e, if_neg (by decide), show IntKind.wrap .i64 (0 - IntKind.wrap .i64 0) = 0 by decide, hx.1]
  · rw [e, if_pos rfl, show IntKind.wrap .i64 (0 - IntKind.wrap .i64 1) = -1 by decide, hx.2.1]
structure FsRr where
  zag : Int → Int
  zag2 : Int → Int
  u64 : Int → Prop
  zig : Int → Int
  r64 : Int → Prop
  rd : List (List PD) → Int → Int → Prop
  num : List (List PD) → Int → Int → Int × Int × Int
  cnt : List (List PD) → Int → Int → Int → Int × Int × Int
  text : List (List PD) → Int → Int → Int → ByteArray × Int × Int
  flag : List (List PD) → Int → Int → Bool × Int × Int
  fin : List (List PD) → Int → Int → Int
  fail : Int → Int
  err : Int → Int → Int
def FsRr0 : FsRr where
  zag := zagI
  zag2 := zagI
  u64 := u64
  zig := zig
  r64 := r64
  rd := isRd
  num := numR
  cnt := cntR
  text := textR
  flag := flagR
  fin := endR
  fail := failR
  err := errR
set_option maxRecDepth 100000 in
theorem v_zag (u : Int) (hp0 : FsRr0.u64 u) : FnV Try.prog 82 [.d (.sc (.int .u64 u))] (intD ((zagI u))) := by
  refine FnD_cbv (T := fun _ => tabY [] []) (H := fun _ => []) (tabY_ok _ _) noK_ok follows_mixed Try.func82 rfl Try.ntmps82 (by simp) fun A X W hA hX hW => ?_
  cbv
  repeat' first
    | (refine part (fun h => ?_) (fun h => ?_) <;> try cbv)
    | (refine And.intro ?_ ?_)
  all_goals subst hA hX hW
  all_goals try (show Region.lexB _ _ = true; kernel_rfl)
  all_goals try (show turnsB _ = true; kernel_rfl)
  all_goals simp only [A0, FsRr0, decide_eq_true_eq, decide_eq_false_iff_not, Bool.not_eq_true', Bool.not_eq_false'] at *
  all_goals first
    | decide
    | (refine ret_v ?_ rfl
       rw [zag_bits u hp0]
       rfl)
def kn_zag (F : FsRr) : FuncId × (List DV → RV) := (82, fun args => match args with
  | [.d (.sc (.int .u64 u))] => some ([F.u64 u], intD ((F.zag u)))
  | _ => none)
theorem ok_zag (args : List DV) (cs : List Prop) (r : DV) (h : (kn_zag FsRr0).2 args = some (cs, r)) (hc : allP cs True) : FnV Try.prog 82 args r ∧ closedL 0 args = true := by
  unfold kn_zag at h
  simp only at h
  split at h
  · cases h; exact ⟨v_zag _ hc.1, rfl⟩
  · cases h
set_option maxRecDepth 100000 in
theorem v_zag2 (u : Int) (hp0 : FsRr0.u64 u) : FnV Try.prog 85 [.d (.sc (.int .u64 u))] (intD ((zagI u))) := by
  refine FnD_cbv (T := fun _ => tabY [] []) (H := fun _ => []) (tabY_ok _ _) noK_ok follows_mixed Try.func85 rfl Try.ntmps85 (by simp) fun A X W hA hX hW => ?_
  cbv
  repeat' first
    | (refine part (fun h => ?_) (fun h => ?_) <;> try cbv)
    | (refine And.intro ?_ ?_)
  all_goals subst hA hX hW
  all_goals try (show Region.lexB _ _ = true; kernel_rfl)
  all_goals try (show turnsB _ = true; kernel_rfl)
  all_goals simp only [A0, FsRr0, decide_eq_true_eq, decide_eq_false_iff_not, Bool.not_eq_true', Bool.not_eq_false'] at *
  all_goals try (first | decide | done)
  all_goals
    replace hp0 : u64 u := hp0
    have h2 := half u hp0
    rw [and1 u hp0] at h
    rw [h2.1, wrap_i64 h2.2]
    refine ret_v ?_ rfl
    simp only [zagI]
  · rw [show (if IntKind.i64.signed = true then (-1 : Int) else IntKind.i64.max) = -1 from rfl, (xor_i64 _ h2.2).2.2, if_pos h]; rfl
  · rw [if_neg h]; rfl
def kn_zag2 (F : FsRr) : FuncId × (List DV → RV) := (85, fun args => match args with
  | [.d (.sc (.int .u64 u))] => some ([F.u64 u], intD ((F.zag2 u)))
  | _ => none)
theorem ok_zag2 (args : List DV) (cs : List Prop) (r : DV) (h : (kn_zag2 FsRr0).2 args = some (cs, r)) (hc : allP cs True) : FnV Try.prog 85 args r ∧ closedL 0 args = true := by
  unfold kn_zag2 at h
  simp only at h
  split at h
  · cases h; exact ⟨v_zag2 _ hc.1, rfl⟩
  · cases h
theorem RetW.ofEq {k : Nat} {r res : DV} {st st2 : Store} (h1 : r = res) (h2 : st = st2) : RetW k (fun r st' => r = res ∧ st' = st2) r st := RetW.refl ⟨h1, h2⟩
set_option maxRecDepth 100000 in
theorem v_pfail (xs : List (List PD)) (a w : Int) (a2 : Int) (e : Int) (hp0 : FsRr0.rd xs a w) : FnD Try.prog 81 [.ref 0 0 0, .d (.sc (.int .i64 a2)), .d (.sc (.int .i64 e))] [rdB 113 xs a w] (fun r st' => r = .tup [] ∧ st' = [rdB 113 xs a2 e]) := by
  obtain ⟨F, hF⟩ : ∃ F, F = FsRr0 := ⟨_, rfl⟩
  refine FnD_cbv (T := fun _ => tabY [] []) (H := fun _ => []) (tabY_ok _ _) noK_ok follows_mixed Try.func81 rfl Try.ntmps81 (by simp) fun A X W hA hX hW => ?_
  cbv
  subst hA hX hW
  exact RetW.refl ⟨rfl, rfl⟩
def kb_pfail (F : FsRr) : FuncId × (List DV → Store → SV) := (81, fun args st => match args with
  | [.ref b ver o, .d (.sc (.int .i64 a2)), .d (.sc (.int .i64 e))] => (match st[b]? with
    | some ⟨t, [.d (.slc 1 xs), .d (.sc (.int .i64 a)), .d (.sc (.int .i64 w))], false, v, true⟩ => (bif (ver == 0) && (o == 0) && (v == 0) && (t == 113) then some ([F.rd xs a w], .tup [], st.set b (rdB 113 xs a2 e)) else none)
    | _ => none)
  | _ => none)
theorem okb_pfail (args : List DV) (st : Store) (cs : List Prop) (r : DV) (st' : Store) (h : (kb_pfail FsRr0).2 args st = some (cs, r, st')) (hc : allP cs True) (K : DV → Store → Prop) (hk : K r st') : FnD Try.prog 81 args st K := by
  unfold kb_pfail at h
  simp only at h
  split at h
  · split at h
    · rename_i hb
      simp only [cond_eq_ite, Bool.and_eq_true, beq_iff_eq, Option.ite_none_right_eq_some] at h
      obtain ⟨⟨⟨⟨rfl, rfl⟩, rfl⟩, rfl⟩, h⟩ := h
      cases h
      exact FnD.one _ (v_pfail _ _ _ _ _ hc.1) hb rfl rfl rfl rfl hk
    · cases h
  · cases h
set_option maxRecDepth 100000 in
theorem v_rfail (xs : List (List PD)) (a w : Int) (e : Int) (hp0 : FsRr0.rd xs a w) : FnD Try.prog 84 [.ref 0 0 0, .d (.sc (.int .i64 e))] [rdB 90 xs a w] (fun r st' => r = .tup [] ∧ st' = [rdB 90 xs a (FsRr0.err w e)]) := by
  obtain ⟨F, hF⟩ : ∃ F, F = FsRr0 := ⟨_, rfl⟩
  refine FnD_cbv (T := fun _ => tabY [] []) (H := fun _ => []) (tabY_ok _ _) noK_ok follows_mixed Try.func84 rfl Try.ntmps84 (by simp) fun A X W hA hX hW => ?_
  cbv
  refine part (fun h => ?_) (fun h => ?_)
  all_goals
    cbv
    subst hA hX hW hF
    simp only [A0, decide_eq_true_eq, decide_eq_false_iff_not] at h
    refine RetW.refl ⟨rfl, ?_⟩
    simp [FsRr0, errR, h]
def kb_rfail (F : FsRr) : FuncId × (List DV → Store → SV) := (84, fun args st => match args with
  | [.ref b ver o, .d (.sc (.int .i64 e))] => (match st[b]? with
    | some ⟨t, [.d (.slc 1 xs), .d (.sc (.int .i64 a)), .d (.sc (.int .i64 w))], false, v, true⟩ => (bif (ver == 0) && (o == 0) && (v == 0) && (t == 90) then some ([F.rd xs a w], .tup [], st.set b (rdB 90 xs a (F.err w e))) else none)
    | _ => none)
  | _ => none)
theorem okb_rfail (args : List DV) (st : Store) (cs : List Prop) (r : DV) (st' : Store) (h : (kb_rfail FsRr0).2 args st = some (cs, r, st')) (hc : allP cs True) (K : DV → Store → Prop) (hk : K r st') : FnD Try.prog 84 args st K := by
  unfold kb_rfail at h
  simp only at h
  split at h
  · split at h
    · rename_i hb
      simp only [cond_eq_ite, Bool.and_eq_true, beq_iff_eq, Option.ite_none_right_eq_some] at h
      obtain ⟨⟨⟨⟨rfl, rfl⟩, rfl⟩, rfl⟩, h⟩ := h
      cases h
      exact FnD.one _ (v_rfail _ _ _ _ hc.1) hb rfl rfl rfl rfl hk
    · cases h
  · cases h
theorem isRd_len {xs : List (List PD)} {a w : Int} (h : isRd xs a w) : ∃ bs, xs = bytesP bs ∧ bytesOf xs = bs ∧ xs.length = bs.length ∧ bs.length ≤ 8000000 ∧ 0 ≤ a ∧ a ≤ bs.length ∧ 0 ≤ w ∧ w ≤ 100 := by
  obtain ⟨⟨bs, rfl, hb⟩, h1, h2, h3, h4⟩ := h
  rw [bytesP_length] at h2
  exact ⟨bs, rfl, bytesOf_bytesP bs, bytesP_length bs, hb, h1, h2, h3, h4⟩
theorem isRd_row {xs : List (List PD)} {a w : Int} (h : isRd xs a w) : (a = xs.length ∧ (bytesOf xs)[a.toNat]? = none) ∨ ∃ (b : UInt8) (c : Nat), b.toNat = c ∧ c < 256 ∧ a < xs.length ∧ (bytesOf xs)[a.toNat]? = some b ∧ xs.getD a.toNat [] = [.sc (.int .u8 (c : Int))] := by
  obtain ⟨bs, rfl, hby, hl, hb, h0, h1, _⟩ := isRd_len h
  rw [hby, hl]
  rcases Int.lt_or_eq_of_le h1 with h2 | h2
  · have hj : a.toNat < bs.length := by omega
    exact .inr ⟨bs[a.toNat], _, rfl, UInt8.toNat_lt _, h2, List.getElem?_eq_getElem hj, rowB rfl h0 h2⟩
  · exact .inl ⟨h2, List.getElem?_eq_none (by omega)⟩
set_option maxRecDepth 100000 in
theorem v_pEnd (xs : List (List PD)) (a w : Int) (hp0 : FsRr0.rd xs a w) : FnD Try.prog 69 [.ref 0 0 0] [rdB 113 xs a w] (fun r st' => r = .d (.sc (.int .i64 (FsRr0.fin xs a w))) ∧ st' = [rdB 113 xs a (FsRr0.fin xs a w)]) := by
  obtain ⟨F, hF⟩ : ∃ F, F = FsRr0 := ⟨_, rfl⟩
  refine FnD_cbv (T := fun _ => tabY [] []) (H := fun _ => []) (tabY_ok _ _) noK_ok follows_mixed Try.func69 rfl Try.ntmps69 (by simp) fun A X W hA hX hW => ?_
  cbv
  repeat' first
    | (refine part (fun h => ?_) (fun h => ?_) <;> try cbv)
    | (refine And.intro ?_ ?_)
    | (with_reducible refine callB hX hB ?_) <;> cbv
  all_goals subst hA hX hW hF
  all_goals have hrow := isRd_row hp0
  all_goals obtain ⟨bs, hxs, hby, hlx, hb, h0, h1, hw0, hw1⟩ := isRd_len hp0
  all_goals have hwa : IntKind.wrap .i64 (a + 1) = a + 1 := wrap_i64 (by unfold r64; omega)
  all_goals try (show Region.lexB _ _ = true; kernel_rfl)
  all_goals try (show turnsB _ = true; kernel_rfl)
  all_goals simp only [A0, FsRr0, decide_eq_true_eq, decide_eq_false_iff_not, Bool.not_eq_true', Bool.not_eq_false', Bool.and_eq_true] at *
  all_goals first
    | assumption
    | exact id
    | (intros; first | assumption | trivial | (simp_all; done))
    | (refine RetW.ofEq ?_ ?_ <;> simp_all [endR, errR] <;> omega)
    | (refine RetW.ofEq ?_ ?_ <;> simp_all [endR, errR])
def kb_pEnd (F : FsRr) : FuncId × (List DV → Store → SV) := (69, fun args st => match args with
  | [.ref b ver o] => (match st[b]? with
    | some ⟨t, [.d (.slc 1 xs), .d (.sc (.int .i64 a)), .d (.sc (.int .i64 w))], false, v, true⟩ => (bif (ver == 0) && (o == 0) && (v == 0) && (t == 113) then some ([F.rd xs a w], .d (.sc (.int .i64 (F.fin xs a w))), st.set b (rdB 113 xs a (F.fin xs a w))) else none)
    | _ => none)
  | _ => none)
theorem okb_pEnd (args : List DV) (st : Store) (cs : List Prop) (r : DV) (st' : Store) (h : (kb_pEnd FsRr0).2 args st = some (cs, r, st')) (hc : allP cs True) (K : DV → Store → Prop) (hk : K r st') : FnD Try.prog 69 args st K := by
  unfold kb_pEnd at h
  simp only at h
  split at h
  · split at h
    · rename_i hb
      simp only [cond_eq_ite, Bool.and_eq_true, beq_iff_eq, Option.ite_none_right_eq_some] at h
      obtain ⟨⟨⟨⟨rfl, rfl⟩, rfl⟩, rfl⟩, h⟩ := h
      cases h
      exact FnD.one _ (v_pEnd _ _ _ hc.1) hb rfl rfl rfl rfl hk
    · cases h
  · cases h
set_option maxRecDepth 100000 in
theorem v_rEnd (xs : List (List PD)) (a w : Int) (hp0 : FsRr0.rd xs a w) : FnD Try.prog 73 [.ref 0 0 0] [rdB 90 xs a w] (fun r st' => r = .d (.sc (.int .i64 (FsRr0.fin xs a w))) ∧ st' = [rdB 90 xs a (FsRr0.fin xs a w)]) := by
  obtain ⟨F, hF⟩ : ∃ F, F = FsRr0 := ⟨_, rfl⟩
  have hB : SoundB Try.prog [kb_rfail F] := by subst hF; exact orB_ok okb_rfail noB_ok
  refine FnD_cbv (T := fun _ => tabY [] []) (H := fun _ => []) (tabY_ok _ _) noK_ok follows_mixed Try.func73 rfl Try.ntmps73 (by simp) fun A X W hA hX hW => ?_
  cbv
  repeat' first
    | (refine part (fun h => ?_) (fun h => ?_) <;> try cbv)
    | (refine And.intro ?_ ?_)
    | (with_reducible refine callB hX hB ?_) <;> cbv
  all_goals subst hA hX hW hF
  all_goals have hrow := isRd_row hp0
  all_goals obtain ⟨bs, hxs, hby, hlx, hb, h0, h1, hw0, hw1⟩ := isRd_len hp0
  all_goals have hwa : IntKind.wrap .i64 (a + 1) = a + 1 := wrap_i64 (by unfold r64; omega)
  all_goals try (show Region.lexB _ _ = true; kernel_rfl)
  all_goals try (show turnsB _ = true; kernel_rfl)
  all_goals simp only [A0, FsRr0, decide_eq_true_eq, decide_eq_false_iff_not, Bool.not_eq_true', Bool.not_eq_false', Bool.and_eq_true] at *
  all_goals first
    | assumption
    | exact id
    | (intros; first | assumption | trivial | (simp_all; done))
    | (refine RetW.ofEq ?_ ?_ <;> simp_all [endR, errR] <;> omega)
    | (refine RetW.ofEq ?_ ?_ <;> simp_all [endR, errR])
def kb_rEnd (F : FsRr) : FuncId × (List DV → Store → SV) := (73, fun args st => match args with
  | [.ref b ver o] => (match st[b]? with
    | some ⟨t, [.d (.slc 1 xs), .d (.sc (.int .i64 a)), .d (.sc (.int .i64 w))], false, v, true⟩ => (bif (ver == 0) && (o == 0) && (v == 0) && (t == 90) then some ([F.rd xs a w], .d (.sc (.int .i64 (F.fin xs a w))), st.set b (rdB 90 xs a (F.fin xs a w))) else none)
    | _ => none)
  | _ => none)
theorem okb_rEnd (args : List DV) (st : Store) (cs : List Prop) (r : DV) (st' : Store) (h : (kb_rEnd FsRr0).2 args st = some (cs, r, st')) (hc : allP cs True) (K : DV → Store → Prop) (hk : K r st') : FnD Try.prog 73 args st K := by
  unfold kb_rEnd at h
  simp only at h
  split at h
  · split at h
    · rename_i hb
      simp only [cond_eq_ite, Bool.and_eq_true, beq_iff_eq, Option.ite_none_right_eq_some] at h
      obtain ⟨⟨⟨⟨rfl, rfl⟩, rfl⟩, rfl⟩, h⟩ := h
      cases h
      exact FnD.one _ (v_rEnd _ _ _ hc.1) hb rfl rfl rfl rfl hk
    · cases h
  · cases h
set_option maxRecDepth 100000 in
theorem v_pFlag (xs : List (List PD)) (a w : Int) (hp0 : FsRr0.rd xs a w) : FnD Try.prog 67 [.ref 0 0 0] [rdB 113 xs a w] (fun r st' => r = .d (.sc (.bool (FsRr0.flag xs a w).1)) ∧ st' = [rdB 113 xs (FsRr0.flag xs a w).2.1 (FsRr0.flag xs a w).2.2]) := by
  obtain ⟨F, hF⟩ : ∃ F, F = FsRr0 := ⟨_, rfl⟩
  have hB : SoundB Try.prog [kb_pfail F] := by subst hF; exact orB_ok okb_pfail noB_ok
  refine FnD_cbv (T := fun _ => tabY [33] []) (H := fun _ => []) (tabY_ok _ _) noK_ok follows_mixed Try.func67 rfl Try.ntmps67 (by simp) fun A X W hA hX hW => ?_
  cbv
  repeat' first
    | (refine part (fun h => ?_) (fun h => ?_) <;> try cbv)
    | (refine And.intro ?_ ?_)
    | (with_reducible refine callB hX hB ?_) <;> cbv
  all_goals subst hA hX hW hF
  all_goals have hrow := isRd_row hp0
  all_goals obtain ⟨bs, hxs, hby, hlx, hb, h0, h1, hw0, hw1⟩ := isRd_len hp0
  all_goals have hwa : IntKind.wrap .i64 (a + 1) = a + 1 := wrap_i64 (by unfold r64; omega)
  all_goals try (show Region.lexB _ _ = true; kernel_rfl)
  all_goals try (show turnsB _ = true; kernel_rfl)
  all_goals simp only [A0, FsRr0, decide_eq_true_eq, decide_eq_false_iff_not, Bool.not_eq_true', Bool.not_eq_false', Bool.and_eq_true] at *
  all_goals first
    | assumption
    | omega
    | skip
  all_goals rcases hrow with ⟨ha, hn⟩ | ⟨b, c, hbc, hc, ha, hn, hr⟩
  all_goals first
    | omega
    | (refine RetW.ofEq ?_ ?_ <;> (simp_all [flagR, flagL, errR]; done))
    | (refine RetW.ofEq ?_ ?_ <;> simp_all [flagR, flagL, errR] <;> (split <;> first | (exfalso; omega) | simp))
    | (exfalso; simp_all; omega)
    | (simp_all; done)
def kb_pFlag (F : FsRr) : FuncId × (List DV → Store → SV) := (67, fun args st => match args with
  | [.ref b ver o] => (match st[b]? with
    | some ⟨t, [.d (.slc 1 xs), .d (.sc (.int .i64 a)), .d (.sc (.int .i64 w))], false, v, true⟩ => (bif (ver == 0) && (o == 0) && (v == 0) && (t == 113) then some ([F.rd xs a w], .d (.sc (.bool (F.flag xs a w).1)), st.set b (rdB 113 xs (F.flag xs a w).2.1 (F.flag xs a w).2.2)) else none)
    | _ => none)
  | _ => none)
theorem okb_pFlag (args : List DV) (st : Store) (cs : List Prop) (r : DV) (st' : Store) (h : (kb_pFlag FsRr0).2 args st = some (cs, r, st')) (hc : allP cs True) (K : DV → Store → Prop) (hk : K r st') : FnD Try.prog 67 args st K := by
  unfold kb_pFlag at h
  simp only at h
  split at h
  · split at h
    · rename_i hb
      simp only [cond_eq_ite, Bool.and_eq_true, beq_iff_eq, Option.ite_none_right_eq_some] at h
      obtain ⟨⟨⟨⟨rfl, rfl⟩, rfl⟩, rfl⟩, h⟩ := h
      cases h
      exact FnD.one _ (v_pFlag _ _ _ hc.1) hb rfl rfl rfl rfl hk
    · cases h
  · cases h
set_option maxRecDepth 100000 in
theorem v_rFlag (xs : List (List PD)) (a w : Int) (hp0 : FsRr0.rd xs a w) : FnD Try.prog 71 [.ref 0 0 0] [rdB 90 xs a w] (fun r st' => r = .d (.sc (.bool (FsRr0.flag xs a w).1)) ∧ st' = [rdB 90 xs (FsRr0.flag xs a w).2.1 (FsRr0.flag xs a w).2.2]) := by
  obtain ⟨F, hF⟩ : ∃ F, F = FsRr0 := ⟨_, rfl⟩
  have hB : SoundB Try.prog [kb_rfail F] := by subst hF; exact orB_ok okb_rfail noB_ok
  refine FnD_cbv (T := fun _ => tabY [29] []) (H := fun _ => []) (tabY_ok _ _) noK_ok follows_mixed Try.func71 rfl Try.ntmps71 (by simp) fun A X W hA hX hW => ?_
  cbv
  repeat' first
    | (refine part (fun h => ?_) (fun h => ?_) <;> try cbv)
    | (refine And.intro ?_ ?_)
    | (with_reducible refine callB hX hB ?_) <;> cbv
  all_goals subst hA hX hW hF
  all_goals have hrow := isRd_row hp0
  all_goals obtain ⟨bs, hxs, hby, hlx, hb, h0, h1, hw0, hw1⟩ := isRd_len hp0
  all_goals have hwa : IntKind.wrap .i64 (a + 1) = a + 1 := wrap_i64 (by unfold r64; omega)
  all_goals try (show Region.lexB _ _ = true; kernel_rfl)
  all_goals try (show turnsB _ = true; kernel_rfl)
  all_goals simp only [A0, FsRr0, decide_eq_true_eq, decide_eq_false_iff_not, Bool.not_eq_true', Bool.not_eq_false', Bool.and_eq_true] at *
  all_goals first
    | assumption
    | omega
    | skip
  all_goals rcases hrow with ⟨ha, hn⟩ | ⟨b, c, hbc, hc, ha, hn, hr⟩
  all_goals first
    | omega
    | (refine RetW.ofEq ?_ ?_ <;> (simp_all [flagR, flagL, errR]; done))
    | (refine RetW.ofEq ?_ ?_ <;> simp_all [flagR, flagL, errR] <;> (split <;> first | (exfalso; omega) | simp))
    | (exfalso; simp_all; omega)
    | (simp_all; done)
def kb_rFlag (F : FsRr) : FuncId × (List DV → Store → SV) := (71, fun args st => match args with
  | [.ref b ver o] => (match st[b]? with
    | some ⟨t, [.d (.slc 1 xs), .d (.sc (.int .i64 a)), .d (.sc (.int .i64 w))], false, v, true⟩ => (bif (ver == 0) && (o == 0) && (v == 0) && (t == 90) then some ([F.rd xs a w], .d (.sc (.bool (F.flag xs a w).1)), st.set b (rdB 90 xs (F.flag xs a w).2.1 (F.flag xs a w).2.2)) else none)
    | _ => none)
  | _ => none)
theorem okb_rFlag (args : List DV) (st : Store) (cs : List Prop) (r : DV) (st' : Store) (h : (kb_rFlag FsRr0).2 args st = some (cs, r, st')) (hc : allP cs True) (K : DV → Store → Prop) (hk : K r st') : FnD Try.prog 71 args st K := by
  unfold kb_rFlag at h
  simp only at h
  split at h
  · split at h
    · rename_i hb
      simp only [cond_eq_ite, Bool.and_eq_true, beq_iff_eq, Option.ite_none_right_eq_some] at h
      obtain ⟨⟨⟨⟨rfl, rfl⟩, rfl⟩, rfl⟩, h⟩ := h
      cases h
      exact FnD.one _ (v_rFlag _ _ _ hc.1) hb rfl rfl rfl rfl hk
    · cases h
  · cases h
theorem sev_lt : ∀ (l : List UInt8) (i u : Nat), i ≤ 9 → u < 2 ^ (7 * i) → ∀ m k, sev i u l = .num m k → m < 18446744073709551616 ∧ i < k ∧ k ≤ i + l.length ∧ k ≤ 10
  | [], i, u, _, _, m, k, h => by simp [sev] at h
  | c :: l, i, u, hi, hu, m, k, h => by
      have hc : c.toNat < 256 := c.toNat_lt
      unfold sev at h
      split at h
      · cases h
      · rename_i hf
        have hb : u + c.toNat % 128 * 2 ^ (7 * i) < 18446744073709551616 := by
          rcases Nat.lt_or_eq_of_le hi with h9 | h9
          · have h1 : c.toNat % 128 < 128 := Nat.mod_lt _ (by decide)
            have h2 : u + c.toNat % 128 * 2 ^ (7 * i) < 128 * 2 ^ (7 * i) := by
              have : c.toNat % 128 * 2 ^ (7 * i) + 2 ^ (7 * i) ≤ 128 * 2 ^ (7 * i) := by
                rw [← Nat.succ_mul]
                exact Nat.mul_le_mul_right _ h1
              omega
            have h3 : 128 * 2 ^ (7 * i) ≤ 128 * 2 ^ (7 * 8) := Nat.mul_le_mul_left _ (Nat.pow_le_pow_right (by decide) (by omega))
            omega
          · subst h9
            have : c.toNat % 128 ≤ 1 := by
              simp only [not_or, not_and] at hf
              have := hf.2 trivial
              omega
            have h1 : u < 2 ^ 63 := by simpa using hu
            have h2 : c.toNat % 128 * 2 ^ (7 * 9) ≤ 1 * 2 ^ (7 * 9) := Nat.mul_le_mul_right _ this
            omega
        split at h
        · cases h
          simp only [List.length_cons]
          omega
        · rename_i h128
          rcases Nat.lt_or_eq_of_le hi with h9 | h9
          · have := sev_lt l (i + 1) _ (by omega) (by
              have h1 : c.toNat % 128 < 128 := Nat.mod_lt _ (by decide)
              have : c.toNat % 128 * 2 ^ (7 * i) + 2 ^ (7 * i) ≤ 128 * 2 ^ (7 * i) := by
                rw [← Nat.succ_mul]
                exact Nat.mul_le_mul_right _ h1
              have e : 2 ^ (7 * (i + 1)) = 128 * 2 ^ (7 * i) := by rw [Nat.mul_add, Nat.pow_add, Nat.mul_comm]
              omega) m k h
            simp only [List.length_cons]
            omega
          · subst h9
            simp only [not_or, not_and] at hf
            have := hf.2 trivial
            omega
/-- One byte of a number: what the loop takes of it. -/
theorem sev_step {bs : List UInt8} {n i u : Nat} {b : UInt8} (hb : bs[n + i]? = some b) : sev i u (bs.drop (n + i)) = if (0 < i ∧ b.toNat = 0) ∨ (i = 9 ∧ 1 < b.toNat) then .form else if b.toNat < 128 then .num (u + b.toNat % 128 * 2 ^ (7 * i)) (i + 1) else sev (i + 1) (u + b.toNat % 128 * 2 ^ (7 * i)) (bs.drop (n + (i + 1))) := by
  have hj : n + i < bs.length := (List.getElem?_eq_some_iff.1 hb).1
  have e : bs[n + i] = b := (List.getElem?_eq_some_iff.1 hb).2
  rw [List.drop_eq_getElem_cons hj, e]
  rfl
theorem sev_end {bs : List UInt8} {n i u : Nat} (hb : bs.length ≤ n + i) : sev i u (bs.drop (n + i)) = .short := by
  rw [List.drop_eq_nil_of_le hb]
  rfl
/-- The bits of one byte, laid in. -/
theorem lay (u i c : Nat) (hc : c < 256) (hi : i ≤ 9) (hu : u < 2 ^ (7 * i)) (h9 : i = 9 → c ≤ 1) :
    bitsV .u64 (· ||| ·) (u : Int) (IntKind.wrap .u64 (IntKind.wrap .u64 (bitsV .u8 (· &&& ·) (c : Int) 127) * 2 ^ min (Int.toNat ((7 * i : Nat) : Int)) (IntKind.bits .u64))) = ((u + c % 128 * 2 ^ (7 * i) : Nat) : Int) ∧ u + c % 128 * 2 ^ (7 * i) < 18446744073709551616 := by
  have hlt : u + c % 128 * 2 ^ (7 * i) < 18446744073709551616 := by
    rcases Nat.lt_or_eq_of_le hi with h | h
    · have h1 : c % 128 < 128 := Nat.mod_lt _ (by decide)
      have : c % 128 * 2 ^ (7 * i) + 2 ^ (7 * i) ≤ 128 * 2 ^ (7 * i) := by
        rw [← Nat.succ_mul]
        exact Nat.mul_le_mul_right _ h1
      have h3 : 128 * 2 ^ (7 * i) ≤ 128 * 2 ^ (7 * 8) := Nat.mul_le_mul_left _ (Nat.pow_le_pow_right (by decide) (by omega))
      omega
    · subst h
      have := h9 rfl
      have h1 : u < 2 ^ 63 := by simpa using hu
      have h2 : c % 128 * 2 ^ (7 * 9) ≤ 1 * 2 ^ (7 * 9) := Nat.mul_le_mul_right _ (by omega)
      omega
  refine ⟨?_, hlt⟩
  have e1 := and127f ⟨c, hc⟩
  simp only at e1
  rw [e1]
  have e3 : min (Int.toNat ((7 * i : Nat) : Int)) (IntKind.bits .u64) = 7 * i := by
    show min (7 * i) 64 = 7 * i
    omega
  have ew : IntKind.wrap .u64 ((c % 128 : Nat) : Int) = ((c % 128 : Nat) : Int) := wrap64_of (by omega) (by omega)
  rw [e3, ew]
  have e4 : ((c % 128 : Nat) : Int) * 2 ^ (7 * i) = ((c % 128 * 2 ^ (7 * i) : Nat) : Int) := by push_cast; rfl
  have ew2 : IntKind.wrap .u64 ((c % 128 * 2 ^ (7 * i) : Nat) : Int) = ((c % 128 * 2 ^ (7 * i) : Nat) : Int) := wrap64_of (by omega) (by omega)
  rw [e4, ew2]
  exact or_add u (c % 128) (7 * i) hu hlt
theorem lay_more (u i c : Nat) (hu : u < 2 ^ (7 * i)) : u + c % 128 * 2 ^ (7 * i) < 2 ^ (7 * (i + 1)) := by
  have h1 : c % 128 < 128 := Nat.mod_lt _ (by decide)
  have : c % 128 * 2 ^ (7 * i) + 2 ^ (7 * i) ≤ 128 * 2 ^ (7 * i) := by
    rw [← Nat.succ_mul]
    exact Nat.mul_le_mul_right _ h1
  have e : 2 ^ (7 * (i + 1)) = 128 * 2 ^ (7 * i) := by rw [Nat.mul_add, Nat.pow_add, Nat.mul_comm]
  omega
theorem num_short {xs : List (List PD)} {bs : List UInt8} {a : Int} {n m : Nat} (hby : bytesOf xs = bs) (h : sev 0 0 (bs.drop a.toNat) = sev n m (bs.drop (a.toNat + n))) (hl : bs.length ≤ a.toNat + n) : numR xs a 0 = (0, a, 3) := by
  simp [numR, numL, hby, h, sev_end hl]
theorem num_form {xs : List (List PD)} {bs : List UInt8} {a : Int} {n m c : Nat} {b : UInt8} (hby : bytesOf xs = bs) (h : sev 0 0 (bs.drop a.toNat) = sev n m (bs.drop (a.toNat + n))) (hb : bs[a.toNat + n]? = some b) (hbc : b.toNat = c) (hc : (0 < n ∧ c = 0) ∨ (n = 9 ∧ 1 < c)) : numR xs a 0 = (0, a, 4) := by
  rw [sev_step hb, hbc, if_pos hc] at h
  simp [numR, numL, hby, h]
theorem num_num {xs : List (List PD)} {bs : List UInt8} {a : Int} {n m c : Nat} {b : UInt8} (hby : bytesOf xs = bs) (h : sev 0 0 (bs.drop a.toNat) = sev n m (bs.drop (a.toNat + n))) (hb : bs[a.toNat + n]? = some b) (hbc : b.toNat = c) (hc : ¬ ((0 < n ∧ c = 0) ∨ (n = 9 ∧ 1 < c))) (h8 : c < 128) : numR xs a 0 = (zagI ((m + c % 128 * 2 ^ (7 * n) : Nat) : Int), a + n + 1, 0) := by
  rw [sev_step hb, hbc, if_neg hc, if_pos h8] at h
  simp [numR, numL, hby, h]
  omega
theorem num_next {bs : List UInt8} {a : Int} {n m c : Nat} {b : UInt8} (h : sev 0 0 (bs.drop a.toNat) = sev n m (bs.drop (a.toNat + n))) (hb : bs[a.toNat + n]? = some b) (hbc : b.toNat = c) (hc : ¬ ((0 < n ∧ c = 0) ∨ (n = 9 ∧ 1 < c))) (h8 : ¬ c < 128) : sev 0 0 (bs.drop a.toNat) = sev (n + 1) (m + c % 128 * 2 ^ (7 * n)) (bs.drop (a.toNat + (n + 1))) := by
  rw [sev_step hb, hbc, if_neg hc, if_neg h8] at h
  exact h
theorem isRd.at {xs : List (List PD)} {a w a' w' : Int} (h : isRd xs a w) (_ : True) (h0 : 0 ≤ a' ∧ a' ≤ xs.length) (h1 : 0 ≤ w' ∧ w' ≤ 100) : isRd xs a' w' := ⟨h.1, h0.1, h0.2, h1.1, h1.2⟩
/-- The loop's state: the place, the count, the bits. -/
def NumI (bs : List UInt8) (a p i u : Int) : Prop := ∃ n m : Nat, i = n ∧ u = m ∧ p = a + n ∧ n ≤ 9 ∧ m < 2 ^ (7 * n) ∧ a + n ≤ bs.length ∧ sev 0 0 (bs.drop a.toNat) = sev n m (bs.drop (a.toNat + n))
set_option maxRecDepth 100000 in
theorem v_pNum (xs : List (List PD)) (a w : Int) (hp0 : FsRr0.rd xs a w) : FnD Try.prog 41 [.ref 0 0 0] [rdB 113 xs a w] (fun r st' => r = .d (.sc (.int .i64 (FsRr0.num xs a w).1)) ∧ st' = [rdB 113 xs (FsRr0.num xs a w).2.1 (FsRr0.num xs a w).2.2]) := by
  obtain ⟨F, hF⟩ : ∃ F, F = FsRr0 := ⟨_, rfl⟩
  have hH : SoundK Try.prog [kn_zag F] := by subst hF; exact orK_ok ok_zag noK_ok
  have hB : SoundB Try.prog [kb_pfail F] := by subst hF; exact orB_ok okb_pfail noB_ok
  refine FnD_cbv (T := fun _ => tabY [39] []) (H := fun _ => [kn_zag F]) (tabY_ok _ _) hH follows_mixed Try.func41 rfl Try.ntmps41 (by simp) fun A X W hA hX hW => ?_
  cbv
  refine part (fun h => ?_) (fun h => ?_)
  · cbv
    subst hA hX hW hF
    have hw : ¬ w = 0 := by simpa [A0] using h
    refine RetW.ofEq ?_ ?_ <;> simp [FsRr0, numR, numL, hw]
  · have hw : w = 0 := by subst hA; simpa [A0] using h
    subst hw
    cbv
    obtain ⟨bs, hxs, hby, hlx, hb, h0, h1, -, -⟩ := isRd_len hp0
    refine loopL (T := fun _ => tabY [39] []) (H := fun _ => [kn_zag F]) (tabY_ok _ _) hH follows_mixed hA hX (fun x : Int × Int × Int => NumI bs a x.1 x.2.1 x.2.2)
      (fun x => [(0, .ref 0 0 0), (3, .d (.sc (.int .i64 a))), (4, .d (.sc (.int .u64 x.2.2))), (5, .d (.sc (.int .i64 x.2.1)))]) (fun x => [rdB 113 xs x.1 0])
      (fun x => bs.length - x.1.toNat) (a, 0, 0) ?_ ?_ ?_
    · exact ⟨0, 0, rfl, rfl, by simp, by omega, by simp, by simpa using h1, by simp⟩
    · subst hF
      exact told_less (by simp [toldP, getS])
    rintro R ⟨p, i, u⟩ hR hinv
    cbv
    repeat' first
      | (refine part (fun h => ?_) (fun h => ?_) <;> try cbv)
      | (refine And.intro ?_ ?_)
      | (with_reducible refine callB hX hB ?_) <;> cbv
    all_goals subst hR hA hX hW hF
    all_goals try (show Region.lexB _ _ = true; kernel_rfl)
    all_goals replace hinv : NumI bs a p i u := hinv
    all_goals obtain ⟨n, m, hi, hu, hp, i1, i2, i3, i4⟩ := hinv
    all_goals have hrow := isRd_row (xs := xs) (a := p) (w := 0) ⟨⟨bs, hxs, hb⟩, by omega, by omega, by omega, by omega⟩
    all_goals subst hi hu
    all_goals have e7 : IntKind.wrap .i64 (7 * (n : Int)) = ((7 * n : Nat) : Int) := by rw [wrap_i64 (by unfold r64; omega)]; omega
    all_goals have e7u : IntKind.wrap .u64 ((7 * n : Nat) : Int) = ((7 * n : Nat) : Int) := wrap64_of (by omega) (by omega)
    all_goals have ep : IntKind.wrap .i64 (p + 1) = p + 1 := wrap_i64 (by unfold r64; omega)
    all_goals have ei : IntKind.wrap .i64 ((n : Int) + 1) = ((n + 1 : Nat) : Int) := by rw [wrap_i64 (by unfold r64; omega)]; omega
    all_goals have epp : IntKind.wrap .i64 (a + (n : Int)) = p := by rw [wrap_i64 (by unfold r64; omega)]; omega
    all_goals rcases hrow with ⟨hpe, hn⟩ | ⟨b, c, hbc, hc, hpl, hn, hr⟩
    all_goals simp only [A0, FsRr0, err0, e7, e7u, epp, ep, ei, decide_eq_true_eq, decide_eq_false_iff_not, Bool.not_eq_true', Bool.not_eq_false', Bool.and_eq_true] at *
    all_goals try simp only [hr, List.map_cons, List.getElem?_cons_zero, e7, e7u, epp, ep, ei] at *
    all_goals first
      | assumption
      | omega
      | exact id
      | exact hp0.at trivial (by omega) (by omega)
      | (intros; first | assumption | trivial | (simp_all; done))
      | (have e := num_short hby i4 (by omega)
         refine RetW.ofEq ?_ ?_ <;> rw [e])
      | (have hcf : (0 < n ∧ c = 0) ∨ (n = 9 ∧ 1 < c) := by
           simp at h
           omega
         have e := num_form hby i4 (b := b) (by rw [← hby, ← hn]; congr 1; omega) hbc hcf
         refine RetW.ofEq ?_ ?_ <;> rw [e])
      | (rintro ⟨h2, h3⟩; exact ⟨h2, by simp [h3]⟩)
      | (intro h2; rw [h2]; rfl)
      | (have hz := ‹(_ : Bool) = false›
         have hcn : ¬ ((0 < n ∧ c = 0) ∨ (n = 9 ∧ 1 < c)) := by
           simp at hz
           omega
         have hl := lay m n c hc i1 i2 (by omega)
         first
           | (rw [hl.1]; exact ⟨by omega, by omega⟩)
           | (have e := num_num hby i4 (b := b) (by rw [← hby, ← hn]; congr 1; omega) hbc hcn (by omega)
              rw [hl.1]
              refine RetW.ofEq ?_ ?_ <;> rw [e]
              try rw [hp])
           | (refine ⟨(p + 1, ((n + 1 : Nat) : Int), ((m + c % 128 * 2 ^ (7 * n) : Nat) : Int)), ⟨n + 1, _, rfl, rfl, by simp only; omega, by omega, lay_more m n c i2, by omega, num_next i4 (b := b) (by rw [← hby, ← hn]; congr 1; omega) hbc hcn (by omega)⟩, by simp only; omega, told_less ?_⟩
              simp only [hl.1]
              simp [toldP, getS])
           | skip)
def kb_pNum (F : FsRr) : FuncId × (List DV → Store → SV) := (41, fun args st => match args with
  | [.ref b ver o] => (match st[b]? with
    | some ⟨t, [.d (.slc 1 xs), .d (.sc (.int .i64 a)), .d (.sc (.int .i64 w))], false, v, true⟩ => (bif (ver == 0) && (o == 0) && (v == 0) && (t == 113) then some ([F.rd xs a w], .d (.sc (.int .i64 (F.num xs a w).1)), st.set b (rdB 113 xs (F.num xs a w).2.1 (F.num xs a w).2.2)) else none)
    | _ => none)
  | _ => none)
theorem okb_pNum (args : List DV) (st : Store) (cs : List Prop) (r : DV) (st' : Store) (h : (kb_pNum FsRr0).2 args st = some (cs, r, st')) (hc : allP cs True) (K : DV → Store → Prop) (hk : K r st') : FnD Try.prog 41 args st K := by
  unfold kb_pNum at h
  simp only at h
  split at h
  · split at h
    · rename_i hb
      simp only [cond_eq_ite, Bool.and_eq_true, beq_iff_eq, Option.ite_none_right_eq_some] at h
      obtain ⟨⟨⟨⟨rfl, rfl⟩, rfl⟩, rfl⟩, h⟩ := h
      cases h
      exact FnD.one _ (v_pNum _ _ _ hc.1) hb rfl rfl rfl rfl hk
    · cases h
  · cases h
set_option maxRecDepth 100000 in
theorem v_rNum (xs : List (List PD)) (a w : Int) (hp0 : FsRr0.rd xs a w) : FnD Try.prog 48 [.ref 0 0 0] [rdB 90 xs a w] (fun r st' => r = .d (.sc (.int .i64 (FsRr0.num xs a w).1)) ∧ st' = [rdB 90 xs (FsRr0.num xs a w).2.1 (FsRr0.num xs a w).2.2]) := by
  obtain ⟨F, hF⟩ : ∃ F, F = FsRr0 := ⟨_, rfl⟩
  have hH : SoundK Try.prog [kn_zag2 F] := by subst hF; exact orK_ok ok_zag2 noK_ok
  have hB : SoundB Try.prog [kb_rfail F] := by subst hF; exact orB_ok okb_rfail noB_ok
  refine FnD_cbv (T := fun _ => tabY [37] []) (H := fun _ => [kn_zag2 F]) (tabY_ok _ _) hH follows_mixed Try.func48 rfl Try.ntmps48 (by simp) fun A X W hA hX hW => ?_
  cbv
  refine part (fun h => ?_) (fun h => ?_)
  · cbv
    subst hA hX hW hF
    have hw : ¬ w = 0 := by simpa [A0] using h
    refine RetW.ofEq ?_ ?_ <;> simp [FsRr0, numR, numL, hw]
  · have hw : w = 0 := by subst hA; simpa [A0] using h
    subst hw
    cbv
    obtain ⟨bs, hxs, hby, hlx, hb, h0, h1, -, -⟩ := isRd_len hp0
    refine loopL (T := fun _ => tabY [37] []) (H := fun _ => [kn_zag2 F]) (tabY_ok _ _) hH follows_mixed hA hX (fun x : Int × Int × Int => NumI bs a x.1 x.2.1 x.2.2)
      (fun x => [(0, .ref 0 0 0), (3, .d (.sc (.int .u64 x.2.2))), (4, .d (.sc (.int .i64 x.2.1)))]) (fun x => [rdB 90 xs a 0])
      (fun x => bs.length - x.1.toNat) (a, 0, 0) ?_ ?_ ?_
    · exact ⟨0, 0, rfl, rfl, by simp, by omega, by simp, by simpa using h1, by simp⟩
    · subst hF
      exact told_less (by simp [toldP, getS])
    rintro R ⟨p, i, u⟩ hR hinv
    cbv
    repeat' first
      | (refine part (fun h => ?_) (fun h => ?_) <;> try cbv)
      | (refine And.intro ?_ ?_)
      | (with_reducible refine callB hX hB ?_) <;> cbv
    all_goals subst hR hA hX hW hF
    all_goals try (show Region.lexB _ _ = true; kernel_rfl)
    all_goals replace hinv : NumI bs a p i u := hinv
    all_goals obtain ⟨n, m, hi, hu, hp, i1, i2, i3, i4⟩ := hinv
    all_goals have hrow := isRd_row (xs := xs) (a := p) (w := 0) ⟨⟨bs, hxs, hb⟩, by omega, by omega, by omega, by omega⟩
    all_goals subst hi hu
    all_goals have e7 : IntKind.wrap .i64 (7 * (n : Int)) = ((7 * n : Nat) : Int) := by rw [wrap_i64 (by unfold r64; omega)]; omega
    all_goals have e7u : IntKind.wrap .u64 ((7 * n : Nat) : Int) = ((7 * n : Nat) : Int) := wrap64_of (by omega) (by omega)
    all_goals have ep : IntKind.wrap .i64 (p + 1) = p + 1 := wrap_i64 (by unfold r64; omega)
    all_goals have ei : IntKind.wrap .i64 ((n : Int) + 1) = ((n + 1 : Nat) : Int) := by rw [wrap_i64 (by unfold r64; omega)]; omega
    all_goals have epp : IntKind.wrap .i64 (a + (n : Int)) = p := by rw [wrap_i64 (by unfold r64; omega)]; omega
    all_goals rcases hrow with ⟨hpe, hn⟩ | ⟨b, c, hbc, hc, hpl, hn, hr⟩
    all_goals simp only [A0, FsRr0, err0, e7, e7u, epp, ep, ei, decide_eq_true_eq, decide_eq_false_iff_not, Bool.not_eq_true', Bool.not_eq_false', Bool.and_eq_true] at *
    all_goals try simp only [hr, List.map_cons, List.getElem?_cons_zero, e7, e7u, epp, ep, ei] at *
    all_goals first
      | assumption
      | omega
      | exact id
      | exact hp0.at trivial (by omega) (by omega)
      | (intros; first | assumption | trivial | (simp_all; done))
      | (have e := num_short hby i4 (by omega)
         refine RetW.ofEq ?_ ?_ <;> rw [e])
      | (have hcf : (0 < n ∧ c = 0) ∨ (n = 9 ∧ 1 < c) := by
           simp at h
           omega
         have e := num_form hby i4 (b := b) (by rw [← hby, ← hn]; congr 1; omega) hbc hcf
         refine RetW.ofEq ?_ ?_ <;> rw [e])
      | (rintro ⟨h2, h3⟩; exact ⟨h2, by simp [h3]⟩)
      | (intro h2; rw [h2]; rfl)
      | (have hz := ‹(_ : Bool) = false›
         have hcn : ¬ ((0 < n ∧ c = 0) ∨ (n = 9 ∧ 1 < c)) := by
           simp at hz
           omega
         have hl := lay m n c hc i1 i2 (by omega)
         first
           | (rw [hl.1]; exact ⟨by omega, by omega⟩)
           | (have e := num_num hby i4 (b := b) (by rw [← hby, ← hn]; congr 1; omega) hbc hcn (by omega)
              rw [hl.1]
              refine RetW.ofEq ?_ ?_ <;> rw [e]
              try rw [hp])
           | (refine ⟨(p + 1, ((n + 1 : Nat) : Int), ((m + c % 128 * 2 ^ (7 * n) : Nat) : Int)), ⟨n + 1, _, rfl, rfl, by simp only; omega, by omega, lay_more m n c i2, by omega, num_next i4 (b := b) (by rw [← hby, ← hn]; congr 1; omega) hbc hcn (by omega)⟩, by simp only; omega, told_less ?_⟩
              simp only [hl.1]
              simp [toldP, getS])
           | skip)
def kb_rNum (F : FsRr) : FuncId × (List DV → Store → SV) := (48, fun args st => match args with
  | [.ref b ver o] => (match st[b]? with
    | some ⟨t, [.d (.slc 1 xs), .d (.sc (.int .i64 a)), .d (.sc (.int .i64 w))], false, v, true⟩ => (bif (ver == 0) && (o == 0) && (v == 0) && (t == 90) then some ([F.rd xs a w], .d (.sc (.int .i64 (F.num xs a w).1)), st.set b (rdB 90 xs (F.num xs a w).2.1 (F.num xs a w).2.2)) else none)
    | _ => none)
  | _ => none)
theorem okb_rNum (args : List DV) (st : Store) (cs : List Prop) (r : DV) (st' : Store) (h : (kb_rNum FsRr0).2 args st = some (cs, r, st')) (hc : allP cs True) (K : DV → Store → Prop) (hk : K r st') : FnD Try.prog 48 args st K := by
  unfold kb_rNum at h
  simp only at h
  split at h
  · split at h
    · rename_i hb
      simp only [cond_eq_ite, Bool.and_eq_true, beq_iff_eq, Option.ite_none_right_eq_some] at h
      obtain ⟨⟨⟨⟨rfl, rfl⟩, rfl⟩, rfl⟩, h⟩ := h
      cases h
      exact FnD.one _ (v_rNum _ _ _ hc.1) hb rfl rfl rfl rfl hk
    · cases h
  · cases h
end Go.Proofs.Ytghkcmgiagodlaa
namespace Go.Proofs.Ytghkcmgiagodlaa
open Go.RowKit
set_option linter.all false
set_option maxHeartbeats 8000000
theorem told_stR {k : Nat} {s s' : SL} {st st' : Store} (h : st = st') (hs : toldP id s s') : Told k s st s' st' := by subst h; exact told_less hs
theorem or1 (w : Nat) (h : w * 2 + 1 < 18446744073709551616) : bitsV .u64 (· ||| ·) ((w * 2 : Nat) : Int) 1 = ((w * 2 + 1 : Nat) : Int) := by
  have := or_add 1 w 1 (by decide) (by omega)
  show IntKind.wrap .u64 ((BitVec.ofInt 64 ((w * 2 : Nat) : Int) ||| BitVec.ofInt 64 1).toNat : Int) = _
  rw [BitVec.or_comm]
  have e : ((w * 2 + 1 : Nat) : Int) = ((1 + w * 2 ^ 1 : Nat) : Int) := by omega
  rw [e, ← this]
  rfl
theorem zig2_neg (n : Int) (h : r64 n) (hn : n < 0) : bitsV .u64 (· ||| ·) (IntKind.wrap .u64 (IntKind.wrap .u64 (bitsV .i64 (· ^^^ ·) (-1) n) * 2 ^ min (Int.toNat 1) (IntKind.bits .u64))) 1 = zig n := by
  unfold r64 at h
  rw [(xor_i64 n h).2.2]
  obtain ⟨w, hw⟩ : ∃ w : Nat, -n - 1 = w := ⟨(-n - 1).toNat, by omega⟩
  rw [hw, wrap64_of (a := (w : Int)) (by omega) (by omega)]
  have e1 : (w : Int) * 2 ^ min (Int.toNat 1) (IntKind.bits .u64) = ((w * 2 : Nat) : Int) := by
    rw [show (2 : Int) ^ min (Int.toNat 1) (IntKind.bits .u64) = 2 by decide]; omega
  rw [e1, wrap64_of (by omega) (by omega), or1 w (by omega)]
  unfold zig
  rw [if_pos hn]
  omega
theorem zig2_pos (n : Int) (h : r64 n) (hn : ¬ n < 0) : IntKind.wrap .u64 (IntKind.wrap .u64 n * 2 ^ min (Int.toNat 1) (IntKind.bits .u64)) = zig n := by
  unfold r64 at h
  rw [wrap64_of (a := n) (by omega) (by omega), show (2 : Int) ^ min (Int.toNat 1) (IntKind.bits .u64) = 2 by decide, wrap64_of (by omega) (by omega)]
  unfold zig
  rw [if_neg hn]
  omega
theorem and127n (u : Nat) : IntKind.wrap .u8 (bitsV .u64 (· &&& ·) (u : Int) 127) = ((u % 128 : Nat) : Int) := by
  have e : bitsV .u64 (· &&& ·) (u : Int) 127 = ((u % 18446744073709551616 % 128 : Nat) : Int) := by
    show IntKind.wrap .u64 ((BitVec.ofInt 64 (u : Int) &&& BitVec.ofInt 64 127).toNat : Int) = _
    rw [ofInt_nat, show (BitVec.ofInt 64 127 : BitVec 64) = BitVec.ofNat 64 127 from rfl, BitVec.toNat_and, BitVec.toNat_ofNat, BitVec.toNat_ofNat]
    have := Nat.and_two_pow_sub_one_eq_mod (u % 2 ^ 64) 7
    rw [show (127 % 2 ^ 64 : Nat) = 2 ^ 7 - 1 by decide, this, wrap64_of (by omega) (by omega)]
  rw [e]
  have : u % 18446744073709551616 % 128 = u % 128 := by omega
  rw [this]
  simp [IntKind.wrap, IntKind.bits, IntKind.signed]
  try omega
theorem or128n (u : Nat) : bitsV .u8 (· ||| ·) ((u % 128 : Nat) : Int) 128 = (((UInt8.ofNat (u % 128 + 128)).toNat : Nat) : Int) := by
  have := or128f ⟨u % 128, by omega⟩
  simp only at this
  rw [this, show u % 128 % 128 = u % 128 by omega]
structure FsW where
  zig2 : Int → Int
  rnum : List (List PD) → Int → List (List PD)
  rtext : List (List PD) → ByteArray → List (List PD)
  rflag : List (List PD) → Bool → List (List PD)
  pflag : List (List PD) → Bool → List (List PD)
  isB : List (List PD) → Prop
  r64 : Int → Prop
  sz : ByteArray → Prop
noncomputable def FsW0 : FsW where
  zig2 := zig
  rnum := numX
  rtext := textX
  rflag := flagX
  pflag := flagX
  isB := isB
  r64 := r64
  sz := szT
set_option maxRecDepth 100000 in
theorem v_zig2 (n : Int) (hp0 : FsW0.r64 n) : FnV Try.prog 83 [intD n] (.d (.sc (.int .u64 ((zig n))))) := by
  refine FnD_cbv (T := fun _ => tabY [] []) (H := fun _ => []) (tabY_ok _ _) noK_ok follows_mixed Try.func83 rfl Try.ntmps83 (by simp) fun A X W hA hX hW => ?_
  cbv
  repeat' first
    | (refine part (fun h => ?_) (fun h => ?_) <;> try cbv)
    | (refine And.intro ?_ ?_)
  all_goals subst hA hX hW
  all_goals try (show Region.lexB _ _ = true; kernel_rfl)
  all_goals try (show turnsB _ = true; kernel_rfl)
  all_goals simp only [A0, FsW0, decide_eq_true_eq, decide_eq_false_iff_not, Bool.not_eq_true', Bool.not_eq_false'] at *
  all_goals try (first | decide | done)
  · refine ret_v ?_ rfl
    rw [show (if IntKind.i64.signed = true then (-1 : Int) else IntKind.i64.max) = -1 from rfl, zig2_neg n hp0 h]
  · refine ret_v ?_ rfl
    rw [zig2_pos n hp0 h]
def kn_zig2 (F : FsW) : FuncId × (List DV → RV) := (83, fun args => match args with
  | [.d (.sc (.int .i64 n))] => some ([F.r64 n], .d (.sc (.int .u64 ((F.zig2 n)))))
  | _ => none)
theorem ok_zig2 (args : List DV) (cs : List Prop) (r : DV) (h : (kn_zig2 FsW0).2 args = some (cs, r)) (hc : allP cs True) : FnV Try.prog 83 args r ∧ closedL 0 args = true := by
  unfold kn_zig2 at h
  simp only at h
  split at h
  · cases h; exact ⟨v_zig2 _ hc.1, rfl⟩
  · cases h
set_option maxRecDepth 100000 in
theorem w_rnum (bs : List UInt8) (xs : List (List PD)) (n : Int) (hxs : xs = bytesP bs) (hb : bs.length ≤ 8000000) (hp1 : r64 n) : FnD Try.prog 45 [.d (.slc 1 xs), intD n] [] (fun r st' => ∃ v cs m, cs = rowsD (bytesP (bs ++ numB n)) ∧ m = (bs ++ numB n).length ∧ r = .view 1 0 v 0 m ∧ st' = [⟨5, cs, true, v, true⟩]) := by
  obtain ⟨GFsW, hFsW⟩ : ∃ F, F = FsW0 := ⟨_, rfl⟩
  have hH : SoundK Try.prog [kn_zig2 GFsW] := by subst hFsW; exact orK_ok ok_zig2 noK_ok
  have hB : SoundB Try.prog [] := by subst hFsW; exact noB_ok
  refine FnD_cbv (T := fun _ => tabY [] []) (H := fun _ => [kn_zig2 GFsW]) (tabY_ok _ _) hH follows_mixed Try.func45 rfl Try.ntmps45 (by simp) fun A X W hA hX hW => ?_
  cbv
  have hz := zig_range hp1
  have hz2 : ((zig n).toNat : Int) = zig n := Int.toNat_of_nonneg hz.1
  have hl : xs.length = bs.length := by rw [hxs]; exact bytesP_length bs
  refine And.intro ?_ (And.intro ?_ (And.intro ?_ (And.intro ?_ ?_)))
  · subst hA; simp only [A0]
  · subst hA; simp only [A0]; rfl
  · subst hA; simp only [A0]; omega
  · subst hFsW; exact hp1
  refine loopL (T := fun _ => tabY [] []) (H := fun _ => [kn_zig2 GFsW]) (tabY_ok _ _) hH follows_mixed hA hX (fun x : List DV × Int × Nat × Nat => ∃ (bs1 : List UInt8) (f u : Nat), x.1 = rowsD (bytesP bs1) ∧ x.2.1 = u ∧ x.2.2.2 = bs1.length ∧ bs1 ++ numF (f + 1) u = bs ++ numB n ∧ u < 128 ^ (f + 1) ∧ u < 18446744073709551616 ∧ f + bs1.length ≤ 8388620)
    (fun x => [(5, .view 1 0 x.2.2.1 0 x.2.2.2), (6, .d (.sc (.int .u64 x.2.1)))]) (fun x => [⟨5, x.1, true, x.2.2.1, true⟩])
    (fun x => x.2.1.toNat) (rowsD (bytesP bs), zig n, 1, bs.length) ?_ ?_ ?_
  · refine ⟨bs, 9, (zig n).toNat, rfl, hz2.symm, rfl, rfl, ?_, ?_, ?_⟩
    all_goals omega
  · subst hA hFsW
    refine told_stR ?_ ?_
    · simp [A0, hxs]
    · simp [toldP, getS, A0, FsW0, hl]
  rintro R ⟨cells, u, v, len⟩ hR ⟨bs1, f, u1, h1, h2, h3, e1, e2, e3, e4⟩
  replace h1 : cells = rowsD (bytesP bs1) := h1
  replace h3 : len = bs1.length := h3
  cbv
  repeat' first
    | (refine part (fun h => ?_) (fun h => ?_) <;> try cbv)
    | (refine And.intro ?_ ?_)
    | (with_reducible refine callB hX hB ?_) <;> cbv
  all_goals subst hR hA hX hW hFsW
  all_goals clear hH hB
  all_goals simp only [A0, FsW0, decide_eq_true_eq, decide_eq_false_iff_not] at *
  all_goals replace h2 : u = (u1 : Int) := h2
  all_goals subst h2
  all_goals first
    | rfl
    | decide
    | omega
    | (rw [h1, rowsB_length, h3, Nat.mul_one]; done)
    | (simp; done)
    | (have hf : (u1 : Int).fdiv (2 ^ min (Int.toNat 7) (IntKind.bits .u64)) = ((u1 / 128 : Nat) : Int) := fdiv128 u1
       obtain ⟨f1, rfl⟩ : ∃ f1, f = f1 + 1 := by
         cases f with
         | zero => omega
         | succ f1 => exact ⟨f1, rfl⟩
       have hu : u1 / 128 < 128 ^ (f1 + 1) := by
         rw [Nat.pow_succ] at e2
         exact Nat.div_lt_of_lt_mul (by rw [Nat.mul_comm]; exact e2)
       refine ⟨(cells ++ [.d (.sc (.int .u8 ((UInt8.ofNat (u1 % 128 + 128)).toNat : Int)))], ((u1 / 128 : Nat) : Int), v + 1, len + 1), ⟨bs1 ++ [UInt8.ofNat (u1 % 128 + 128)], f1, u1 / 128, ?_, rfl, ?_, ?_, hu, ?_, ?_⟩, ?_, told_keep [0] rfl ?_ ?_⟩
       · simp only [rowsB_append, rowsB_one, h1]
       · simp [h3]
       · rw [← e1, numF_step (f1 + 1) u1 (by omega)]
         simp only [List.append_assoc, List.singleton_append]
       · omega
       · simp only [List.length_append, List.length_singleton]; omega
       · simp only; omega
       · simp only [and127n, or128n]
         simp [keepSt, pullBox, pullL_eq, h1, pull_rows, pullD]
       · rw [hf]
         simp [toldP, getS, pullD])
    | (have hb2 : numF (f + 1) u1 = [UInt8.ofNat u1] := numF_last f u1 (by omega)
       rw [hb2] at e1
       refine ret_keep [0] rfl ⟨v + 1, _, _, rfl, rfl, ?_, ?_⟩
       · simp [pullD, ← e1, h3]
       · rw [← e1, rowsB_append, rowsB_one, ← h1, low8 u1 (by omega)]
         simp [keepSt, pullBox, pullL_eq, h1, pull_rows, pullD])
theorem v_rnum (xs : List (List PD)) (n : Int) (hp0 : isB xs) (hp1 : r64 n) : FnV Try.prog 45 [.d (.slc 1 xs), intD n] (.d (.slc 1 (numX xs n))) := by
  obtain ⟨bs, hxs, hb⟩ := hp0
  refine FnD.ret ((w_rnum bs xs n hxs hb hp1).mono ?_)
  rintro r st ⟨v, cs, m, hcs, hm, rfl, rfl⟩
  exact ret_bytes rfl hm hcs (by simp [numX, hxs, bytesP_append])
def kn_rnum (F : FsW) : FuncId × (List DV → RV) := (45, fun args => match args with
  | [.d (.slc 1 xs), .d (.sc (.int .i64 n))] => some ([F.isB xs, F.r64 n], .d (.slc 1 (F.rnum xs n)))
  | [.d (.sc (.slice none 0 0)), .d (.sc (.int .i64 n))] => some ([F.isB [], F.r64 n], .d (.slc 1 (F.rnum [] n)))
  | _ => none)
theorem ok_rnum (args : List DV) (cs : List Prop) (r : DV) (h : (kn_rnum FsW0).2 args = some (cs, r)) (hc : allP cs True) : FnV Try.prog 45 args r ∧ closedL 0 args = true := by
  unfold kn_rnum at h
  simp only at h
  split at h
  · cases h; exact ⟨v_rnum _ _ hc.1 hc.2.1, rfl⟩
  · cases h; exact ⟨FnP.nils (v_rnum [] _ hc.1 hc.2.1) ⟨.inr ⟨rfl, _, rfl⟩, ⟨.inl rfl, trivial⟩⟩, rfl⟩
  · cases h
set_option maxRecDepth 100000 in
theorem v_rtext (xs : List (List PD)) (s : ByteArray) (hp0 : isB xs) (hp1 : szT s) : FnV Try.prog 64 [.d (.slc 1 xs), strD s] (.d (.slc 1 (textX xs s))) := by
  have hs : s.size ≤ 4194304 := hp1
  obtain ⟨bs, hxs, hb⟩ := hp0
  have hH : SoundK Try.prog [] := by exact noK_ok
  have hB : SoundB Try.prog [] := by exact noB_ok
  refine FnD_cbv (T := fun _ => tabY [] []) (H := fun _ => []) (tabY_ok _ _) hH follows_mixed Try.func64 rfl Try.ntmps64 (by simp) fun A X W hA hX hW => ?_
  cbv
  refine callL hX ((w_rnum bs xs _ hxs hb ?_).mono ?_)
  · subst hA
    show r64 (s.size : Int)
    unfold r64; omega
  rintro r st ⟨v, cs2, m2, hcs2, hm2, rfl, rfl⟩
  cbv
  have hn := numB_length (s.size : Int)
  subst hA hX hW
  replace hcs2 : cs2 = rowsD (bytesP (bs ++ numB (s.size : Int))) := hcs2
  replace hm2 : m2 = (bs ++ numB (s.size : Int)).length := hm2
  have hsz : s.data.toList.length = s.size := by rw [Array.length_toList]; rfl
  refine And.intro rfl (And.intro ?_ (And.intro ?_ ?_))
  · simp only [A0]
    rw [hcs2, rowsB_length, hm2, Nat.mul_one]
  · simp only [A0]
    rw [hm2, List.length_append]
    omega
  · refine ret_bytes (bs := bs ++ textB s) rfl ?_ ?_ (by simp [textX, hxs, bytesP_append])
    · simp only [A0, hm2, textB, List.length_append, hsz]
      omega
    · simp only [A0, hcs2, textB]
      rw [← List.append_assoc, rowsB_append (bs ++ numB s.size)]
def kn_rtext (F : FsW) : FuncId × (List DV → RV) := (64, fun args => match args with
  | [.d (.slc 1 xs), .d (.sc (.string s))] => some ([F.isB xs, F.sz s], .d (.slc 1 (F.rtext xs s)))
  | [.d (.sc (.slice none 0 0)), .d (.sc (.string s))] => some ([F.isB [], F.sz s], .d (.slc 1 (F.rtext [] s)))
  | _ => none)
theorem ok_rtext (args : List DV) (cs : List Prop) (r : DV) (h : (kn_rtext FsW0).2 args = some (cs, r)) (hc : allP cs True) : FnV Try.prog 64 args r ∧ closedL 0 args = true := by
  unfold kn_rtext at h
  simp only at h
  split at h
  · cases h; exact ⟨v_rtext _ _ hc.1 hc.2.1, rfl⟩
  · cases h; exact ⟨FnP.nils (v_rtext [] _ hc.1 hc.2.1) ⟨.inr ⟨rfl, _, rfl⟩, ⟨.inl rfl, trivial⟩⟩, rfl⟩
  · cases h
set_option maxRecDepth 100000 in
theorem v_rflag (xs : List (List PD)) (b : Bool) (hp0 : isB xs) : FnV Try.prog 65 [.d (.slc 1 xs), boolD b] (.d (.slc 1 (flagX xs b))) := by
  obtain ⟨bs, hxs, hb⟩ := hp0
  have hl : xs.length = bs.length := by rw [hxs]; exact bytesP_length bs
  cases b
  · have hH : SoundK Try.prog [] := by exact noK_ok
    have hB : SoundB Try.prog [] := by exact noB_ok
    refine FnD_cbv (T := fun _ => tabY [] []) (H := fun _ => []) (tabY_ok _ _) hH follows_mixed Try.func65 rfl Try.ntmps65 (by simp) fun A X W hA hX hW => ?_
    cbv
    repeat' first
      | (refine part (fun h => ?_) (fun h => ?_) <;> try cbv)
      | (refine And.intro ?_ ?_)
    all_goals subst hA hX hW
    all_goals clear hH hB
    all_goals simp only [A0] at *
    all_goals first
      | rfl
      | omega
      | (simp; done)
      | (simp; omega)
      | (rw [hxs, rowsB_length, bytesP_length]; simp; done)
      | (simp [hxs, rowsB_length, bytesP_length]; done)
      | (simp [hcs, rowsB_length, hm]; done)
      | (simp [hcs, rowsB_length, hm]; omega)
      | (refine ret_bytes (bs := bs ++ [1]) rfl ?_ ?_ (by simp [flagX, hxs, bytesP_append]) <;> simp [hxs, bytesP_length, rowsB_append, rowsB_one]; done)
      | (refine ret_bytes (bs := bs ++ [0]) rfl ?_ ?_ (by simp [flagX, hxs, bytesP_append]) <;> simp [hxs, bytesP_length, rowsB_append, rowsB_one]; done)
      | (refine ret_bytes (bs := bs ++ [1]) rfl ?_ ?_ (by simp [flagX, hxs, bytesP_append]) <;> simp [hcs, hm, rowsB_append, rowsB_one]; done)
      | (refine ret_bytes (bs := bs ++ [0]) rfl ?_ ?_ (by simp [flagX, hxs, bytesP_append]) <;> simp [hcs, hm, rowsB_append, rowsB_one]; done)
  · have hH : SoundK Try.prog [] := by exact noK_ok
    have hB : SoundB Try.prog [] := by exact noB_ok
    refine FnD_cbv (T := fun _ => tabY [] []) (H := fun _ => []) (tabY_ok _ _) hH follows_mixed Try.func65 rfl Try.ntmps65 (by simp) fun A X W hA hX hW => ?_
    cbv
    repeat' first
      | (refine part (fun h => ?_) (fun h => ?_) <;> try cbv)
      | (refine And.intro ?_ ?_)
    all_goals subst hA hX hW
    all_goals clear hH hB
    all_goals simp only [A0] at *
    all_goals first
      | rfl
      | omega
      | (simp; done)
      | (simp; omega)
      | (rw [hxs, rowsB_length, bytesP_length]; simp; done)
      | (simp [hxs, rowsB_length, bytesP_length]; done)
      | (simp [hcs, rowsB_length, hm]; done)
      | (simp [hcs, rowsB_length, hm]; omega)
      | (refine ret_bytes (bs := bs ++ [1]) rfl ?_ ?_ (by simp [flagX, hxs, bytesP_append]) <;> simp [hxs, bytesP_length, rowsB_append, rowsB_one]; done)
      | (refine ret_bytes (bs := bs ++ [0]) rfl ?_ ?_ (by simp [flagX, hxs, bytesP_append]) <;> simp [hxs, bytesP_length, rowsB_append, rowsB_one]; done)
      | (refine ret_bytes (bs := bs ++ [1]) rfl ?_ ?_ (by simp [flagX, hxs, bytesP_append]) <;> simp [hcs, hm, rowsB_append, rowsB_one]; done)
      | (refine ret_bytes (bs := bs ++ [0]) rfl ?_ ?_ (by simp [flagX, hxs, bytesP_append]) <;> simp [hcs, hm, rowsB_append, rowsB_one]; done)
def kn_rflag (F : FsW) : FuncId × (List DV → RV) := (65, fun args => match args with
  | [.d (.slc 1 xs), .d (.sc (.bool b))] => some ([F.isB xs], .d (.slc 1 (F.rflag xs b)))
  | [.d (.sc (.slice none 0 0)), .d (.sc (.bool b))] => some ([F.isB []], .d (.slc 1 (F.rflag [] b)))
  | _ => none)
theorem ok_rflag (args : List DV) (cs : List Prop) (r : DV) (h : (kn_rflag FsW0).2 args = some (cs, r)) (hc : allP cs True) : FnV Try.prog 65 args r ∧ closedL 0 args = true := by
  unfold kn_rflag at h
  simp only at h
  split at h
  · cases h; exact ⟨v_rflag _ _ hc.1, rfl⟩
  · cases h; exact ⟨FnP.nils (v_rflag [] _ hc.1) ⟨.inr ⟨rfl, _, rfl⟩, ⟨.inl rfl, trivial⟩⟩, rfl⟩
  · cases h
end Go.Proofs.Ytghkcmgiagodlaa
namespace Go.Proofs.Ytghkcmgiagodlaa
open Go.RowKit
set_option linter.all false
set_option maxHeartbeats 4000000
def prB1 (p : Pair) : List UInt8 := textB p.key ++ textB p.value ++ numB p.version
def prB (ps : List Pair) : List UInt8 := numB ps.length ++ (ps.map prB1).flatten
def prX (xs l : List (List PD)) : List (List PD) := xs ++ bytesP (prB (pairsOf l))
/-- Pairs that are not too large. -/
def isPs (l : List (List PD)) : Prop := ∃ ps, l = pairsX ps ∧ ps.length ≤ 32 ∧ ∀ p ∈ ps, p.key.size ≤ 16 ∧ p.value.size ≤ 64 ∧ r64 p.version
def isBs (xs : List (List PD)) : Prop := ∃ bs, xs = bytesP bs ∧ bs.length ≤ 1000000
theorem textB_length (s : ByteArray) : (textB s).length ≤ 10 + s.size := by
  have := numB_length s.size
  have e : s.data.toList.length = s.size := rfl
  simp only [textB, List.length_append, e]
  omega
theorem prB1_length {p : Pair} (h1 : p.key.size ≤ 16) (h2 : p.value.size ≤ 64) : (prB1 p).length ≤ 110 := by
  have a := textB_length p.key
  have b := textB_length p.value
  have c := numB_length p.version
  simp only [prB1, List.length_append]
  omega
theorem prB1s_length : ∀ {ps : List Pair}, (∀ p ∈ ps, p.key.size ≤ 16 ∧ p.value.size ≤ 64 ∧ r64 p.version) → ((ps.map prB1).flatten).length ≤ 110 * ps.length
  | [], _ => by simp
  | p :: ps, h => by
      have h1 := prB1_length (h p (by simp)).1 (h p (by simp)).2.1
      have h2 := prB1s_length (ps := ps) fun q hq => h q (by simp [hq])
      simp only [List.map_cons, List.flatten_cons, List.length_append, List.length_cons]
      omega
theorem prB_length {ps : List Pair} (h : ps.length ≤ 32) (h2 : ∀ p ∈ ps, p.key.size ≤ 16 ∧ p.value.size ≤ 64 ∧ r64 p.version) : (prB ps).length ≤ 4000 := by
  have a := prB1s_length h2
  have c := numB_length ps.length
  simp only [prB, List.length_append]
  omega
theorem take_pr {ps : List Pair} {i : Nat} (h : i < ps.length) : ((ps.take (i + 1)).map prB1).flatten = ((ps.take i).map prB1).flatten ++ prB1 (ps[i]'h) := by
  rw [List.take_succ_eq_append_getElem h, List.map_append, List.flatten_append]
  simp only [List.map_cons, List.map_nil, List.flatten_cons, List.flatten_nil, List.append_nil]
def isLn (k : Nat) (xs : List (List PD)) : Prop := ∃ bs, xs = bytesP bs ∧ bs.length ≤ k
theorem isLn.le {k : Nat} {xs : List (List PD)} (h : isLn k xs) (hk : k ≤ 8000000) : isB xs := by
  obtain ⟨bs, h1, h2⟩ := h
  exact ⟨bs, h1, by omega⟩
theorem isLn.num {k : Nat} {xs : List (List PD)} (h : isLn k xs) (n : Int) : isLn (k + 10) (numX xs n) := by
  obtain ⟨bs, rfl, h2⟩ := h
  have := numB_length n
  exact ⟨bs ++ numB n, by simp only [numX, bytesP_append], by rw [List.length_append]; omega⟩
theorem isLn.text {k : Nat} {xs : List (List PD)} (h : isLn k xs) {s : ByteArray} (hs : s.size ≤ 64) : isLn (k + 74) (textX xs s) := by
  obtain ⟨bs, rfl, h2⟩ := h
  have := textB_length s
  exact ⟨bs ++ textB s, by simp only [textX, bytesP_append], by rw [List.length_append]; omega⟩
/-- The bytes after the first i pairs. -/
def prK (b0 : List (List PD)) (ps : List Pair) (i : Nat) : List (List PD) := b0 ++ bytesP (((ps.take i).map prB1).flatten)
theorem prK_zero (b0 : List (List PD)) (ps : List Pair) : prK b0 ps 0 = b0 := by simp [prK, bytesP]
theorem prK_succ (b0 : List (List PD)) {ps : List Pair} {i : Nat} (h : i < ps.length) : prK b0 ps (i + 1) = numX (textX (textX (prK b0 ps i) (ps[i]'h).key) (ps[i]'h).value) (ps[i]'h).version := by
  simp only [prK, take_pr h, numX, textX, prB1, bytesP_append, List.append_assoc]
theorem prK_end (b0 : List (List PD)) (ps : List Pair) : prK b0 ps ps.length = b0 ++ bytesP ((ps.map prB1).flatten) := by
  simp [prK]
theorem prK_ln {k : Nat} {b0 : List (List PD)} (h : isLn k b0) {ps : List Pair} (hl : ps.length ≤ 32) (hps : ∀ p ∈ ps, p.key.size ≤ 16 ∧ p.value.size ≤ 64 ∧ r64 p.version) (i : Nat) : isLn (k + 3520) (prK b0 ps i) := by
  obtain ⟨bs, rfl, h2⟩ := h
  have h3 : ((((ps.take i).map prB1).flatten)).length ≤ 110 * (ps.take i).length := prB1s_length fun p hp => hps p (List.mem_of_mem_take hp)
  have h4 : (ps.take i).length ≤ ps.length := by rw [List.length_take]; omega
  exact ⟨bs ++ ((ps.take i).map prB1).flatten, by simp only [prK, bytesP_append], by rw [List.length_append]; omega⟩
structure FsFb where
  prs : List (List PD) → List (List PD) → List (List PD)
  prsR : List (List PD) → List (List PD) → List (List PD)
  isPs : List (List PD) → Prop
  isBs : List (List PD) → Prop
noncomputable def FsFb0 : FsFb where
  prs := prX
  prsR := prX
  isPs := isPs
  isBs := isBs
set_option maxRecDepth 100000 in
theorem v_prsR (xs : List (List PD)) (l : List (List PD)) (hp0 : FsFb0.isBs xs) (hp1 : FsFb0.isPs l) : FnV Try.prog 63 [.d (.slc 1 xs), .d (.slc 3 l)] (.d (.slc 1 (prX xs l))) := by
  obtain ⟨bs, hxs, hbl⟩ := hp0
  obtain ⟨ps, hls, hpl, hps⟩ := hp1
  have hll : l.length = ps.length := by rw [hls]; exact pairsX_length ps
  obtain ⟨n, hn⟩ : ∃ n : Int, n = ps.length := ⟨_, rfl⟩
  have hn32 : 0 ≤ n ∧ n ≤ 32 := by omega
  obtain ⟨b0, hb0⟩ : ∃ b0, b0 = numX xs (l.length : Int) := ⟨_, rfl⟩
  have hb0l : isLn 1000010 b0 := by rw [hb0]; exact isLn.num ⟨bs, hxs, hbl⟩ _
  have hfin : prX xs l = prK b0 ps ps.length := by
    rw [prK_end, hb0, hll, hls]
    simp only [prX, pairsOf_X, prB, numX, bytesP_append, List.append_assoc]
  obtain ⟨GFsW, hGFsW⟩ : ∃ F, F = FsW0 := ⟨_, rfl⟩
  have hH : SoundK Try.prog [kn_rnum GFsW, kn_rtext GFsW] := by subst hGFsW; exact orK_ok ok_rnum (orK_ok ok_rtext noK_ok)
  refine FnD_cbv (T := fun _ => tabY [20, 26, 32] []) (H := fun _ => [kn_rnum GFsW, kn_rtext GFsW]) (tabY_ok _ _) hH follows_mixed Try.func63 rfl Try.ntmps63 (by simp) fun A X W hA hX hW => ?_
  cbv
  have e0 : GFsW.rnum xs n = b0 := by rw [hn, ← hll]; subst hGFsW; exact hb0.symm
  have e1 : A.len l = n := by subst hA; exact (congrArg (Nat.cast (R := Int)) hll).trans hn.symm
  cbv at e0 e1
  rw [hfin] at *
  simp only [e1, e0]
  refine And.intro (by subst hGFsW; exact ⟨bs, hxs, by omega⟩) (And.intro (by subst hGFsW; show r64 n; unfold r64; omega) ?_)
  refine loopL (T := fun _ => tabY [20, 26, 32] []) (H := fun _ => [kn_rnum GFsW, kn_rtext GFsW]) (tabY_ok _ _) hH follows_mixed hA hX (fun x : Int × List (List PD) => 0 ≤ x.1 ∧ x.1 ≤ ps.length ∧ x.2 = prK b0 ps x.1.toNat)
    (fun x => [(0, .d (.slc 1 x.2)), (1, .d (.slc 3 l)), (5, .d (.sc (.int .i64 x.1)))]) (fun _ => [])
    (fun x => (ps.length : Int).toNat - x.1.toNat) (0, b0) ?_ ?_ ?_
  · exact ⟨by omega, by omega, (prK_zero b0 ps).symm⟩
  · exact told_less (by simp [toldP, getS])
  rintro R ⟨i, r⟩ hR ⟨i0, i1, i2⟩
  cbv
  try simp only [e1]
  repeat' first
    | (refine part (fun h => ?_) (fun h => ?_) <;> try cbv)
    | (refine And.intro ?_ ?_)
  all_goals subst hA hX hW hR hGFsW
  all_goals simp only [A0, nc, decide_eq_true_eq, decide_eq_false_iff_not, Bool.not_eq_true', Bool.not_eq_false'] at *
  all_goals replace i1 : i ≤ (ps.length : Int) := i1
  all_goals have ei : IntKind.wrap .i64 (i + 1) = i + 1 := wrap_i64 (by unfold r64; omega)
  all_goals have hr := prK_ln hb0l hpl hps i.toNat
  all_goals rw [← i2] at hr
  all_goals try
    have hi : i < ps.length := by omega
    have hj : i.toNat < ps.length := by omega
    have hrx := prow hls i0 hi
    have hpp := hps _ (List.getElem_mem hj)
    have hsu := prK_succ b0 hj
    generalize ps[i.toNat]'(by omega) = p at hrx hpp hsu
    obtain ⟨hk, hv, hve⟩ := hpp
    rw [← i2] at hsu
    simp only [hrx, Pair.row, List.drop_zero, List.drop_succ_cons, List.map_cons, List.map_nil, Nat.zero_add, List.getElem?_cons_zero, List.getElem?_cons_succ] at *
  all_goals first
    | rfl
    | (show Region.lexB _ _ = true; kernel_rfl)
    | (show turnsB _ = true; kernel_rfl)
    | (refine ⟨by omega, by omega⟩; done)
    | omega
    | exact hve
    | (show szT _; unfold szT; omega)
    | exact hr.le (by omega)
    | exact (hr.text (s := p.key) (by omega)).le (by omega)
    | exact ((hr.text (s := p.key) (by omega)).text hv).le (by omega)
    | (refine ⟨(i + 1, prK b0 ps (i.toNat + 1)), ⟨by simp only; omega, by simp only; omega, by simp only; rw [show (i + 1).toNat = i.toNat + 1 by omega]⟩, by simp only [Int.toNat_natCast]; omega, told_less ?_⟩
       rw [hsu]
       simp [toldP, getS, ei]
       try rfl
       done)
    | (simp; done)
    | (refine ret_v ?_ rfl
       have hil : i.toNat = ps.length := by omega
       rw [i2, hil])
    | (refine ⟨(i + 1, prK b0 ps (i.toNat + 1)), ⟨by simp only; omega, by simp only; omega, by simp only; rw [show (i + 1).toNat = i.toNat + 1 by omega]⟩, by simp only [Int.toNat_natCast]; omega, told_keep [] rfl rfl ?_⟩
       rw [hsu]
       simp [toldP, pullD, getS, ei]
       try rfl
       done)
    | skip
def kn_prsR (F : FsFb) : FuncId × (List DV → RV) := (63, fun args => match args with
  | [.d (.slc 1 xs), .d (.slc 3 l)] => some ([F.isBs xs, F.isPs l], .d (.slc 1 (F.prsR xs l)))
  | [.d (.sc (.slice none 0 0)), .d (.slc 3 l)] => some ([F.isBs [], F.isPs l], .d (.slc 1 (F.prsR [] l)))
  | [.d (.slc 1 xs), .d (.sc (.slice none 0 0))] => some ([F.isBs xs, F.isPs []], .d (.slc 1 (F.prsR xs [])))
  | [.d (.sc (.slice none 0 0)), .d (.sc (.slice none 0 0))] => some ([F.isBs [], F.isPs []], .d (.slc 1 (F.prsR [] [])))
  | _ => none)
theorem ok_prsR (args : List DV) (cs : List Prop) (r : DV) (h : (kn_prsR FsFb0).2 args = some (cs, r)) (hc : allP cs True) : FnV Try.prog 63 args r ∧ closedL 0 args = true := by
  unfold kn_prsR at h
  simp only at h
  split at h
  · cases h; exact ⟨v_prsR _ _ hc.1 hc.2.1, rfl⟩
  · cases h; exact ⟨FnP.nils (v_prsR [] _ hc.1 hc.2.1) ⟨.inr ⟨rfl, _, rfl⟩, ⟨.inl rfl, trivial⟩⟩, rfl⟩
  · cases h; exact ⟨FnP.nils (v_prsR _ [] hc.1 hc.2.1) ⟨.inl rfl, ⟨.inr ⟨rfl, _, rfl⟩, trivial⟩⟩, rfl⟩
  · cases h; exact ⟨FnP.nils (v_prsR [] [] hc.1 hc.2.1) ⟨.inr ⟨rfl, _, rfl⟩, ⟨.inr ⟨rfl, _, rfl⟩, trivial⟩⟩, rfl⟩
  · cases h
end Go.Proofs.Ytghkcmgiagodlaa
namespace Go.Proofs.Ytghkcmgiagodlaa
open Go.RowKit
set_option linter.all false
/-- Are the versions numbers of 64 bits? -/
def rv64 (l : List (List PD)) : Prop := ∀ p ∈ pairsOf l, r64 p.version
theorem isLn.flag {k : Nat} {xs : List (List PD)} (h : isLn k xs) (b : Bool) : isLn (k + 1) (flagX xs b) := by
  obtain ⟨bs, rfl, h2⟩ := h
  exact ⟨bs ++ [if b then 1 else 0], by simp only [flagX, bytesP_append], by rw [List.length_append]; simp only [List.length_cons, List.length_nil]; omega⟩
theorem isLn.prs {k : Nat} {xs l : List (List PD)} (h : isLn k xs) (hl : isPs l) : isLn (k + 4000) (prX xs l) := by
  obtain ⟨bs, rfl, h2⟩ := h
  obtain ⟨ps, rfl, h3, h4⟩ := hl
  have h5 := prB_length h3 h4
  exact ⟨bs ++ prB ps, by simp only [prX, pairsOf_X, bytesP_append], by rw [List.length_append]; omega⟩
theorem isLn.mono {k n : Nat} {xs : List (List PD)} (h : isLn k xs) (hn : k ≤ n) : isLn n xs := by
  obtain ⟨bs, h1, h2⟩ := h
  exact ⟨bs, h1, by omega⟩
theorem isLn.nil : isLn 0 [] := ⟨[], rfl, by simp⟩
theorem isLn.bs {k : Nat} {xs : List (List PD)} (h : isLn k xs) (hk : k ≤ 1000000) : isBs xs := by
  obtain ⟨bs, h1, h2⟩ := h
  exact ⟨bs, h1, by omega⟩
theorem rise_mem : ∀ {ps : List Pair} {a : ByteArray}, riseP a ps = true → ∀ p ∈ ps, p.key.size ≤ 16 ∧ p.value.size ≤ 64
  | [], _, _, p, h => absurd h (by simp)
  | q :: ps, a, hr, p, h => by
      simp only [riseP, okP1, Bool.and_eq_true, decide_eq_true_eq] at hr
      rcases List.mem_cons.1 h with e | h
      · subst e; exact ⟨hr.1.1.1.2, hr.1.1.2⟩
      · exact rise_mem hr.2 p h
theorem right_isPs {l : List (List PD)} (h : isP l) (hr : rightX l = true) (hv : rv64 l) : isPs l := by
  obtain ⟨ps, rfl, _⟩ := h
  unfold rightX rightP at hr
  unfold rv64 at hv
  rw [pairsOf_X] at hr hv
  simp only [Bool.and_eq_true, decide_eq_true_eq] at hr
  exact ⟨ps, rfl, hr.1, fun p hp => ⟨(rise_mem hr.2 p hp).1, (rise_mem hr.2 p hp).2, hv p hp⟩⟩
/-- Behind bytes: an owner. -/
noncomputable def owX (b : List (List PD)) (o : Owner) : List (List PD) :=
  bif decide (o.seq = 0) then numX b o.seq else prX (numX (textX (flagX (numX (numX b o.seq) o.reply.why) o.reply.found) o.reply.value) o.reply.version) o.reply.pairs
/-- May an owner be written? -/
def okBo (o : Owner) : Prop := 0 ≤ o.seq ∧ r64 o.seq ∧ r64 o.reply.why ∧ o.reply.value.size ≤ 64 ∧ r64 o.reply.version ∧ isPs o.reply.pairs
theorem okO_bo {o : Owner} (h : okO o = true) (hp : isP o.reply.pairs) (h1 : r64 o.reply.version) (h2 : rv64 o.reply.pairs) : okBo o := by
  simp only [okO, rightRep, Bool.and_eq_true, Bool.or_eq_true, decide_eq_true_eq] at h
  obtain ⟨⟨⟨a1, a2⟩, ⟨⟨⟨a3, a4⟩, a5⟩, a6⟩, a7⟩, _⟩ := h
  refine ⟨a1, by unfold r64; omega, ?_, a4, h1, right_isPs hp a7 h2⟩
  rcases a3 with e | e <;> rw [e] <;> unfold r64 <;> decide
theorem isLn.ow {k : Nat} {b : List (List PD)} (h : isLn k b) {o : Owner} (ho : okBo o) : isLn (k + 4200) (owX b o) := by
  unfold owX
  cases decide (o.seq = 0)
  · exact ((((((h.num _).num _).flag _).text ho.2.2.2.1).num _).prs ho.2.2.2.2.2).mono (by omega)
  · exact (h.num _).mono (by omega)
/-- Behind bytes: the owners. -/
noncomputable def owsX (b : List (List PD)) (os : List Owner) : List (List PD) := os.foldl owX b
theorem owsX_succ (b : List (List PD)) {os : List Owner} {i : Nat} (h : i < os.length) : owsX b (os.take (i + 1)) = owX (owsX b (os.take i)) (os[i]'h) := by
  rw [List.take_succ_eq_append_getElem h, owsX, List.foldl_append]; rfl
theorem isLn.ows {k : Nat} : ∀ {os : List Owner} {b : List (List PD)}, isLn k b → (∀ o ∈ os, okBo o) → isLn (k + 4200 * os.length) (owsX b os) := by
  intro os
  induction os generalizing k with
  | nil => intro b h _; exact h.mono (by simp)
  | cons o os ih =>
    intro b h ho
    have h1 := ih (h.ow (ho o (by simp))) fun q hq => ho q (by simp [hq])
    exact h1.mono (by simp only [List.length_cons]; omega)
/-- The bytes of a state. -/
noncomputable def bytesSt (s : List DV) : List (List PD) := bif rightSt s then owsX (prX [] (prsS s)) (ownersOf (ownS s)) else []
def owB (o : Owner) : List UInt8 := numB o.seq ++ (bif decide (o.seq = 0) then [] else numB o.reply.why ++ ([if o.reply.found then 1 else 0] ++ (textB o.reply.value ++ (numB o.reply.version ++ prB (pairsOf o.reply.pairs)))))
theorem owX_B (b : List UInt8) (o : Owner) : owX (bytesP b) o = bytesP (b ++ owB o) := by
  unfold owX owB
  cases decide (o.seq = 0) <;> simp only [cond_true, cond_false, numX, textX, flagX, prX, ← bytesP_append, List.append_assoc, List.append_nil]
theorem owsX_B : ∀ (os : List Owner) (b : List UInt8), owsX (bytesP b) os = bytesP (b ++ (os.map owB).flatten)
  | [], b => by simp [owsX]
  | o :: os, b => by
      have h : owsX (bytesP b) (o :: os) = owsX (owX (bytesP b) o) os := rfl
      rw [h, owX_B, owsX_B os]
      simp
end Go.Proofs.Ytghkcmgiagodlaa
namespace Go.Proofs.Ytghkcmgiagodlaa
open Go.RowKit
set_option linter.all false
set_option maxHeartbeats 4000000
end Go.Proofs.Ytghkcmgiagodlaa
namespace Go.Proofs.Ytghkcmgiagodlaa
open Go.RowKit
set_option linter.all false
set_option maxHeartbeats 4000000
end Go.Proofs.Ytghkcmgiagodlaa
namespace Go.Proofs.Ytghkcmgiagodlaa
open Go.RowKit
set_option linter.all false
set_option maxHeartbeats 4000000
/-- Are a state's versions numbers of 64 bits? -/
def okV (s : List DV) : Prop := rv64 (prsS s) ∧ ∀ o ∈ ownersOf (ownS s), r64 o.reply.version ∧ rv64 o.reply.pairs
structure FsPu where
  stPut : List DV → List (List PD)
  stPutR : List DV → List (List PD)
  isSt : List DV → Prop
  okV : List DV → Prop
end Go.Proofs.Ytghkcmgiagodlaa
