/- The program logic, seventh part: what makes memory or writes it. No condition: lemmas of any program. -/
import Derived.Test.YtmjmbfcfnhnpmaaAm6
namespace Go.Proofs.Ytmjmbfcfnhnpmaa
open Go.RowKit
set_option linter.all false
/-- The operation ends so: some value, some environment. -/
def Ends (P : Program) (E : Env) (c : Sem Value) (K : DV → Store → Prop) : Prop :=
  ∃ v E' d, c.run P E.w = .ok v E'.w ∧ K d E'.st ∧ Conc E' ∧ Ext E E' ∧ Rep E' d v
theorem Ends.pure {P : Program} {E : Env} (hc : Conc E) {c : Sem Value} {K : DV → Store → Prop} (h : ∃ u d, c.run P E.w = .ok u E.w ∧ K d E.st ∧ Rep E d u) : Ends P E c K := by
  obtain ⟨u, d, h1, h2, h3⟩ := h
  exact ⟨u, E, d, h1, h2, hc, Ext.refl E, h3⟩
theorem ref_new (E : Env) (w' : World) (S' : Nat → Prop) (g z : Nat) (bx : Box) (hl : E.σ.length = E.st.length) :
    Rep ⟨w', S', E.σ ++ [(g, z)], E.st ++ [bx]⟩ (.ref E.st.length bx.ver 0) (.pointer (some ⟨g, 0, none⟩)) := by
  refine ⟨bx, (g, z), by simp, ?_, rfl, Nat.le_refl _, fun _ => rfl⟩
  simp only
  rw [← hl]
  simp
theorem run_newVar {P : Program} (w : World) (t : TypeId) (v : Value) : (newVar t v).run P w = .ok ⟨w.heap.size, 0, none⟩ (w.alloc (.cells v.cells t)) := rfl
theorem run_newRow {P : Program} (w : World) (t : TypeId) (cs : Array Value) : (newRow t cs).run P w = .ok ⟨w.heap.size, 0, none⟩ (w.alloc (.cells cs t)) := rfl
/-- A new variable with a value. -/
def boxD (st : Store) (t : TypeId) (x : DV) (K : DV → Store → Prop) : Prop :=
  match cellsD x with
  | some ds => ds.length ≤ 1000000 ∧ K (.ref st.length 0 0) (st ++ [⟨t, ds, false, 0, true⟩])
  | none => False
theorem box_ok {P : Program} {E : Env} (hc : Conc E) {t : TypeId} {x : DV} {v : Value} (hx : Rep E x v) {K : DV → Store → Prop} (h : boxD E.st t x K) : Ends P E (Instr.box t v) K := by
  unfold boxD at h
  split at h
  · rename_i ds hd
    obtain ⟨hmax, h⟩ := h
    obtain ⟨vs, h1, h2, h3⟩ := cellsD_spec hx hd
    have hl := h2.length
    obtain ⟨c1, c2⟩ := newBox hc vs.toArray t ds false (by simp [hl]) (by simp [hl]) trivial
      (fun j d hj => by
        obtain ⟨u, e1, e2⟩ := h2.get _ _ j d hj
        exact ⟨u, by simpa using e1, oneL h3 e1, e2⟩) (fun j u hj => oneL h3 (by simpa using hj))
    refine ⟨.pointer (some ⟨E.w.heap.size, 0, none⟩), _, _, ?_, h, c1, c2, ?_⟩
    · simp [Instr.box, run_newVar, h1]
    · exact ref_new E _ _ _ _ ⟨t, ds, false, 0, true⟩ hc.len
  · exact h.elim
theorem zeroD_spec {P : Program} {t : TypeId} {ds : List DV} (h : zeroD P t = some ds) : ∃ z i, P.info? t = some i ∧ i.zero = some z ∧ z.cells.size = i.size ∧ (∀ u ∈ z.cells.toList, u.oneCell' = true) ∧ i.size ≤ 1000000 ∧ ds = z.cells.toList.map fun v => .d (.sc v) := by
  unfold zeroD at h
  split at h
  · rename_i i hi
    split at h
    · rename_i z hz
      split at h
      · rename_i hq
        cases h
        exact ⟨z, i, hi, hz, hq.1, List.all_eq_true.1 hq.2.1, hq.2.2, rfl⟩
      · cases h
    · cases h
  · cases h
theorem zero_reps (E : Env) : ∀ vs : List Value, Reps E (vs.map fun v => .d (.sc v)) vs
  | [] => trivial
  | _ :: vs => ⟨rfl, zero_reps E vs⟩
/-- A new variable, zero. -/
def allocD (P : Program) (st : Store) (t : TypeId) (K : DV → Store → Prop) : Prop :=
  match zeroD P t with
  | some ds => K (.ref st.length 0 0) (st ++ [⟨t, ds, false, 0, true⟩])
  | none => False
theorem alloc_ok {P : Program} {E : Env} (hc : Conc E) {t : TypeId} {K : DV → Store → Prop} (h : allocD P E.st t K) : Ends P E (Instr.alloc t true (.tuple #[])) K := by
  unfold allocD at h
  split at h
  · rename_i ds hd
    obtain ⟨z, i, h1, h2, h3, h4, h5, rfl⟩ := zeroD_spec hd
    have hR := zero_reps E z.cells.toList
    obtain ⟨c1, c2⟩ := newBox hc z.cells t (z.cells.toList.map fun v => .d (.sc v)) false (by simp) (by simp) trivial
      (fun j d hj => by
        obtain ⟨u, e1, e2⟩ := hR.get _ _ j d hj
        exact ⟨u, by simpa using e1, oneL h4 e1, e2⟩) (fun j u hj => oneL h4 (by simpa using hj))
    refine ⟨.pointer (some ⟨E.w.heap.size, 0, none⟩), _, _, ?_, h, c1, c2, ?_⟩
    · simp [Instr.alloc, zeroValue, typeInfo, h1, h2, run_newVar]
    · exact ref_new E _ _ _ _ ⟨t, _, false, 0, true⟩ hc.len
  · exact h.elim
def splice (cs : List DV) (o : Nat) (ds : List DV) : List DV := cs.take o ++ ds ++ cs.drop (o + ds.length)
theorem splice_length (cs : List DV) (o : Nat) (ds : List DV) (h : o + ds.length ≤ cs.length) : (splice cs o ds).length = cs.length := by simp [splice]; omega
theorem splice_get {α : Type} (cs ds : List α) (o : Nat) (h : o + ds.length ≤ cs.length) (j : Nat) : (cs.take o ++ ds ++ cs.drop (o + ds.length))[j]? = if o ≤ j ∧ j < o + ds.length then ds[j - o]? else cs[j]? := by
  simp only [List.getElem?_append, List.length_append, List.length_take, List.getElem?_take, List.getElem?_drop]
  by_cases h1 : j < o
  · simp [h1, show j < min o cs.length + ds.length by omega, show j < min o cs.length by omega, show ¬ o ≤ j by omega]
  · by_cases h2 : j < o + ds.length
    · rw [if_pos (by omega), if_neg (by omega), if_pos (by omega), show min o cs.length = o by omega]
    · simp [h2, show ¬ j < min o cs.length + ds.length by omega, show o + ds.length + (j - (min o cs.length + ds.length)) = j by omega]
/-- The cells of a box are written. -/
theorem write_ok {E : Env} (hc : Conc E) {b g z : Nat} {bx : Box} (hb : E.st[b]? = some bx) (hg : E.σ[b]? = some (g, z)) (hl : bx.live = true) {o : Nat} {ds : List DV} {vs : List Value} (hR : Reps E ds vs) (hone : ∀ u ∈ vs, u.oneCell' = true)
    (hfit : o + ds.length ≤ bx.cells.length) (P : Program) :
    ∃ E' : Env, (storeCells ⟨g, o, none⟩ vs).run P E.w = .ok () E'.w ∧ E'.st = E.st.set b { bx with cells := splice bx.cells o ds } ∧ E'.S = E.S ∧ E'.σ = E.σ ∧ Conc E' ∧ Ext E E' := by
  obtain ⟨cur, a1, a2, a3, a4, a5, a6, a7, a8⟩ := hc.box b bx g z hb hg hl
  have hlen := hR.length
  have hst := run_storeCells_at P g o bx.ty vs 0 cur E.w a1 (by omega) hone
  simp only [Nat.add_zero] at hst
  have hset : E.σ.set b (g, z) = E.σ := by
    apply List.ext_getElem?
    intro j
    by_cases hj : b = j
    · subst hj; rw [hg]; simp [(List.getElem?_eq_some_iff.1 hg).1]
    · simp [hj]
  have key := turnBox hc hb hg (E.w.setRow g (cur.toList.take o ++ vs ++ cur.toList.drop (o + vs.length)).toArray) g z (cur.toList.take o ++ vs ++ cur.toList.drop (o + vs.length)).toArray { bx with cells := splice bx.cells o ds }
    (by simp) rfl rfl rfl (fun k _ hk => setRow_other E.w g k _ hk) hl (setRow_heap E.w g cur _ bx.ty _ a1) (by simp; omega) (Nat.le_refl _) (fun _ => rfl) (.inl rfl)
    (by rw [splice_length _ _ _ hfit]; exact a3) (fun he => by rw [splice_length _ _ _ hfit]; exact a4 he) trivial
    (fun j d hj => by
      have h2 := splice_get cur.toList vs o (by simp; omega) j
      rw [splice, splice_get _ _ _ hfit] at hj
      simp only [List.getElem?_toArray]
      rw [h2]
      split at hj
      · rename_i hq
        rw [if_pos (by omega)]
        obtain ⟨u, e1, e2⟩ := hR.get _ _ _ _ hj
        exact ⟨u, e1, oneL hone e1, e2⟩
      · rename_i hq
        rw [if_neg (by omega)]
        simpa using a7 j d hj)
    (fun j u hj => by
      have h2 := splice_get cur.toList vs o (by simp; omega) j
      simp only [List.getElem?_toArray] at hj
      rw [h2] at hj
      split at hj
      · exact oneL hone hj
      · exact a8 j u (by simpa using hj))
  rw [hset] at key
  exact ⟨⟨E.w.setRow g (cur.toList.take o ++ vs ++ cur.toList.drop (o + vs.length)).toArray, E.S, E.σ, E.st.set b { bx with cells := splice bx.cells o ds }⟩, hst, rfl, rfl, rfl, key.1, key.2⟩
/-- A store. -/
def storeD (P : Program) (st : Store) (t : TypeId) (a x : DV) (K : Store → Prop) : Prop :=
  match tyD P t, a, cellsD x with
  | some (sz, _), .ref b ver o, some ds => match st[b]? with
    | some bx => bx.live = true ∧ ver = bx.ver ∧ ds.length = sz ∧ o + sz ≤ bx.cells.length ∧ K (st.set b { bx with cells := splice bx.cells o ds })
    | none => False
  | _, _, _ => False
theorem store_ok {P : Program} {E : Env} (hc : Conc E) {t : TypeId} {x y : DV} {a v : Value} (ha : Rep E y a) (hx : Rep E x v) {K : Store → Prop} (h : storeD P E.st t y x K) :
    ∃ E', (Instr.storeAt t a v).run P E.w = .ok () E'.w ∧ K E'.st ∧ Conc E' ∧ Ext E E' := by
  unfold storeD at h
  split at h
  · rename_i sz ag b ver o ds ht hd
    split at h
    · rename_i bx hb'
      obtain ⟨hl, rfl, hds, hfit, h⟩ := h
      obtain ⟨bx', gz, hb, hg, hone, hle, hv⟩ := ha
      rw [hb] at hb'
      cases hb'
      rw [hv rfl]
      obtain ⟨vs, h1, h2, h3⟩ := cellsD_spec hx hd
      obtain ⟨E', r1, r2, r3, r4, r5, r6⟩ := write_ok hc hb hg hl h2 h3 (o := o) (by omega) P
      obtain ⟨q1, _⟩ := tyD_run ht E.w
      have hlen := h2.length
      refine ⟨E', ?_, by rw [r2]; exact h, r5, r6⟩
      simp [Instr.storeAt, Instr.sureAddr, storeVar, q1, h1, show vs.length = sz by omega, r1]
    · exact h.elim
  · exact h.elim
/-- Where a part of a composite lies, and its cells. -/
def placeD (P : Program) (t : TypeId) (i : Nat) : Option (Nat × Nat) :=
  match P.underlying t with
  | some (.array _ e) => match P.info? e with
    | some ie => some (i * ie.size, ie.size)
    | none => none
  | some (.struct fs) => match fs.toList.mapM (fun f => (P.info? f.type).map fun i => (f.offset, i.size)) with
    | some places => places[i]?
    | none => none
  | _ => none
def fillD (place : Nat → Option (Nat × Nat)) (cells : List DV) : List (Nat × DV) → Option (List DV)
  | [] => some cells
  | (i, x) :: rest => match place i, cellsD x with
    | some (off, size), some ds => if ds.length = size ∧ off + size ≤ cells.length then fillD place (splice cells off ds) rest else none
    | _, _ => none
theorem foldl_fill (off : Nat) : ∀ (l : List Value) (k : Nat) (cs : Array Value), off + k + l.length ≤ cs.size →
    ((l.zipIdx k).foldl (fun cs (c : Value × Nat) => cs.setIfInBounds (off + c.2) c.1) cs).toList = cs.toList.take (off + k) ++ l ++ cs.toList.drop (off + k + l.length)
  | [], k, cs, _ => by simp
  | v :: l, k, cs, h => by
      simp only [List.length_cons] at h
      simp only [List.zipIdx_cons, List.foldl_cons]
      rw [foldl_fill off l (k + 1) _ (by simp; omega)]
      have e := list_seg_step cs.toList (off + k) v l (by simp; omega)
      simpa [Array.toList_setIfInBounds, Nat.add_assoc] using e
theorem foldl_fill' (off : Nat) (c : Array Value) (cs : Array Value) (h : off + c.size ≤ cs.size) :
    c.zipIdx.foldl (fun cs (p : Value × Nat) => cs.setIfInBounds (off + p.2) p.1) cs = (cs.toList.take off ++ c.toList ++ cs.toList.drop (off + c.size)).toArray := by
  apply Array.ext'
  rw [← Array.foldl_toList, Array.toList_zipIdx]
  have := foldl_fill off c.toList 0 cs (by simpa using h)
  simpa using this
theorem fill_ok {E : Env} (place : Nat → Option (Nat × Nat)) : ∀ (parts : List (Nat × DV)) (vparts : List (Nat × Value)), parts.length = vparts.length →
    (∀ (j : Nat) (p : Nat × DV) (q : Nat × Value), parts[j]? = some p → vparts[j]? = some q → p.1 = q.1 ∧ Rep E p.2 q.2) → ∀ (cells : List DV) (vs : Array Value), Reps E cells vs.toList → (∀ u ∈ vs.toList, u.oneCell' = true) → ∀ out, fillD place cells parts = some out →
    ∃ vout : Array Value, Instr.fill place vs vparts = some vout ∧ Reps E out vout.toList ∧ ∀ u ∈ vout.toList, u.oneCell' = true
  | [], [], _, _, cells, vs, hR, h1, out, h => by
      cases h
      exact ⟨vs, rfl, hR, h1⟩
  | (i, x) :: parts, (i', v) :: vparts, hl, hp, cells, vs, hR, h1, out, h => by
      obtain ⟨rfl, hx⟩ := hp 0 _ _ rfl rfl
      simp only [fillD] at h
      split at h
      · rename_i off size ds hpl hd
        split at h
        · rename_i hq
          obtain ⟨hq1, hq2⟩ := hq
          obtain ⟨us, e1, e2, e3⟩ := cellsD_spec hx hd
          have hlen := e2.length
          have hvl := hR.length
          have hsz : vs.size = cells.length := by rw [hvl]; simp
          have hus : v.cells.size = us.length := by rw [e1]; simp
          have hfit : off + us.length ≤ vs.toList.length := by simp; omega
          obtain ⟨vout, k1, k2, k3⟩ := fill_ok place parts vparts (by simpa using hl) (fun j p q hp' hq' => hp (j + 1) p q (by simpa using hp') (by simpa using hq')) (splice cells off ds) (vs.toList.take off ++ us ++ vs.toList.drop (off + us.length)).toArray
            (Reps.of_get _ _ (by rw [splice_length _ _ _ (by omega)]; simp; omega) (fun j d u hj hu => by
              rw [splice, splice_get _ _ _ (by omega)] at hj
              simp only at hu
              rw [splice_get _ _ _ hfit] at hu
              split at hj
              · rw [if_pos (by omega)] at hu
                obtain ⟨u', g1, g2⟩ := e2.get _ _ _ _ hj
                rw [g1] at hu; cases hu; exact g2
              · rw [if_neg (by omega)] at hu
                obtain ⟨u', g1, g2⟩ := hR.get _ _ _ _ hj
                rw [g1] at hu; cases hu; exact g2))
            (fun u hu => by
              simp only [List.mem_append] at hu
              rcases hu with (hu | hu) | hu
              · exact h1 u (List.mem_of_mem_take hu)
              · exact e3 u hu
              · exact h1 u (List.mem_of_mem_drop hu)) out h
          refine ⟨vout, ?_, k2, k3⟩
          unfold Instr.fill
          have hno : ¬ ((v.cells.size ≠ size) || decide (off + v.cells.size > vs.size)) = true := by simp; omega
          simp only [hpl]
          rw [if_neg (by simpa using hno)]
          have hf := foldl_fill' off v.cells vs (by rw [hus]; simpa using hfit)
          rw [e1] at hf ⊢
          simp only [List.size_toArray] at hf
          rw [← k1]
          exact congrArg (fun c => Instr.fill place c vparts) hf
        · cases h
      · cases h
  | [], _ :: _, hl, _, _, _, _, _, _, _ => by simp at hl
  | _ :: _, [], hl, _, _, _, _, _, _, _ => by simp at hl
def buildOk (P : Program) (t : TypeId) : Bool := match P.underlying t with
  | some (.array _ e) => (P.info? e).isSome
  | some (.struct fs) => (fs.toList.mapM (fun f => (P.info? f.type).map fun i => (f.offset, i.size))).isSome
  | _ => false
/-- A struct or an array out of parts. -/
def buildD (P : Program) (t : TypeId) (parts : List (Nat × DV)) (K : DV → Prop) : Prop :=
  buildOk P t = true ∧ match zeroD P t with
  | some z => match fillD (placeD P t) z parts with
    | some cs => K (.agg cs)
    | none => False
  | none => False
theorem build_ok {P : Program} {E : Env} {t : TypeId} {parts : List (Nat × DV)} {vparts : List (Nat × Value)} (hl : parts.length = vparts.length)
    (hp : ∀ (j : Nat) (p : Nat × DV) (q : Nat × Value), parts[j]? = some p → vparts[j]? = some q → p.1 = q.1 ∧ Rep E p.2 q.2) {K : DV → Prop} (h : buildD P t parts K) :
    ∃ u d, (Instr.build t vparts.toArray).run P E.w = .ok u E.w ∧ K d ∧ Rep E d u := by
  unfold buildD at h
  obtain ⟨hag, h⟩ := h
  split at h
  · rename_i z hz
    split at h
    · rename_i cs hcs
      obtain ⟨zv, i, h1, h2, h3, h4, h5, rfl⟩ := zeroD_spec hz
      obtain ⟨vout, k1, k2, k3⟩ := fill_ok (E := E) (placeD P t) parts vparts hl hp _ zv.cells (zero_reps E _) h4 cs hcs
      refine ⟨.agg vout, .agg cs, run_build E.w t vparts.toArray vout ?_, h, vout.toList, by simp, k3, k2⟩
      unfold Program.built
      cases hu : P.underlying t with
      | none => simp [buildOk, hu] at hag
      | some u =>
        cases u <;> try (simp [buildOk, hu] at hag; done)
        · rename_i n e
          simp only [h1, h2]
          cases hi : P.info? e with
          | none => simp [buildOk, hu, hi] at hag
          | some ie =>
            simp only
            rw [← k1]
            congr 1
            funext j
            simp [placeD, hu, hi]
        · rename_i fs
          simp only [h1, h2]
          cases hm : fs.toList.mapM (fun f => (P.info? f.type).map fun i => (f.offset, i.size)) with
          | none => simp [buildOk, hu, hm] at hag
          | some places =>
            simp only
            rw [← k1]
            congr 1
            funext j
            simp [placeD, hu, hm]
    · exact h.elim
  · exact h.elim
/-- A slice that the text lists. -/
def buildSliceD (P : Program) (st : Store) (t : TypeId) (len : Nat) (parts : List (Nat × DV)) (K : DV → Store → Prop) : Prop :=
  match slD P t with
  | some (e, sz) => len * sz ≤ 100000 ∧ match zeroD P e with
    | some z => z.length = sz ∧ 0 < sz ∧ match fillD (fun i => some (i * sz, sz)) (List.replicate len z).flatten parts with
      | some cs => K (.view sz st.length 0 0 len) (st ++ [⟨e, cs, false, 0, true⟩])
      | none => False
    | none => False
  | none => False
theorem flat_rep {α : Type} (z : List α) : ∀ (n j : Nat), j < n * z.length → (List.replicate n z).flatten[j]? = z[j % z.length]?
  | 0, j, h => by simp at h
  | n + 1, j, h => by
      rw [List.replicate_succ, List.flatten_cons, List.getElem?_append]
      split
      · rename_i hj
        rw [Nat.mod_eq_of_lt hj]
      · rename_i hj
        rw [Nat.add_mul, Nat.one_mul] at h
        rw [flat_rep z n (j - z.length) (by omega), ← Nat.mod_eq_sub_mod (by omega)]
theorem zeros_eq (z : Array Value) (n : Nat) (hz : 0 < z.size) : ((Array.range (n * z.size)).map (z[· % z.size]!)).toList = (List.replicate n z.toList).flatten := by
  apply List.ext_getElem?
  intro j
  by_cases hj : j < n * z.size
  · rw [flat_rep z.toList n j (by simpa using hj)]
    have hm : j % z.size < z.size := Nat.mod_lt _ hz
    simp [hj, hm]
  · rw [List.getElem?_eq_none (by simp; omega), List.getElem?_eq_none (by simp; omega)]
theorem reps_flat {E : Env} (ds : List DV) (vs : List Value) (h : Reps E ds vs) : ∀ n, Reps E (List.replicate n ds).flatten (List.replicate n vs).flatten
  | 0 => trivial
  | n + 1 => by
      rw [List.replicate_succ, List.replicate_succ, List.flatten_cons, List.flatten_cons]
      exact Reps.append _ _ _ _ h (reps_flat ds vs h n)
theorem view_new (E : Env) (w' : World) (S' : Nat → Prop) (g z sz n c : Nat) (bx : Box) (hl : E.σ.length = E.st.length) (hz : c * sz = z) (hn : n ≤ c) (hm : c ≤ maxLen) :
    Rep ⟨w', S', E.σ ++ [(g, z)], E.st ++ [bx]⟩ (.view sz E.st.length bx.ver 0 n) (.slice (some ⟨g, 0, none⟩) n c) := by
  refine ⟨bx, (g, z), by simp, ?_, rfl, Nat.le_refl _, fun _ => ⟨c, rfl, hn, hm, by simpa using hz⟩⟩
  simp only
  rw [← hl]
  simp
theorem buildSlice_run {P : Program} {E : Env} {t e : TypeId} {len sz : Nat} {parts : List (Nat × DV)} {vparts : List (Nat × Value)} {z cs : List DV} (hl : parts.length = vparts.length)
    (hp : ∀ (j : Nat) (p : Nat × DV) (q : Nat × Value), parts[j]? = some p → vparts[j]? = some q → p.1 = q.1 ∧ Rep E p.2 q.2) (hs : slD P t = some (e, sz)) (hlim : len * sz ≤ 100000) (hz : zeroD P e = some z) (hzl : z.length = sz) (hpos : 0 < sz)
    (hcs : fillD (fun i => some (i * sz, sz)) (List.replicate len z).flatten parts = some cs) :
    ∃ vout : Array Value, (Instr.buildSlice t len vparts.toArray).run P E.w = .ok (.slice (some ⟨E.w.heap.size, 0, none⟩) len len) (E.w.alloc (.cells vout e)) ∧ vout.size = len * sz ∧ Reps E cs vout.toList ∧ ∀ u ∈ vout.toList, u.oneCell' = true := by
  obtain ⟨zv, i, h1, h2, h3, h4, h5, rfl⟩ := zeroD_spec hz
  simp only [List.length_map, Array.length_toList] at hzl
  subst hzl
  obtain ⟨hu, _, hsz⟩ := slD_spec hs
  have hze := zeros_eq zv.cells len hpos
  obtain ⟨vout, k1, k2, k3⟩ := fill_ok (E := E) (fun i => some (i * zv.cells.size, zv.cells.size)) parts vparts hl hp _ ((Array.range (len * zv.cells.size)).map (zv.cells[· % zv.cells.size]!))
    (by rw [hze]; exact reps_flat _ _ (zero_reps E _) len)
    (by rw [hze]; intro u hu'; simp only [List.mem_flatten, List.mem_replicate] at hu'; obtain ⟨l, ⟨_, rfl⟩, hm⟩ := hu'; exact h4 u hm) cs hcs
  have hsize : vout.size = len * zv.cells.size := by
    have : ∀ (parts : List (Nat × Value)) (c o : Array Value), Instr.fill (fun i => some (i * zv.cells.size, zv.cells.size)) c parts = some o → o.size = c.size := by
      intro parts
      induction parts with
      | nil => intro c o h; simp [Instr.fill] at h; rw [h]
      | cons p parts ih =>
        intro c o h
        obtain ⟨i, v⟩ := p
        simp only [Instr.fill] at h
        split at h
        · cases h
        · have h' := ih _ _ h
          rw [h']
          have : ∀ (l : List (Value × Nat)) (f : Nat → Nat) (c : Array Value), (l.foldl (fun cs (x : Value × Nat) => cs.setIfInBounds (f x.2) x.1) c).size = c.size := by
            intro l f
            induction l with
            | nil => intro c; rfl
            | cons x l ih => intro c; simp [ih]
          rw [← Array.foldl_toList]
          exact this _ (fun j => i * zv.cells.size + j) _
    have := this _ _ _ k1
    simpa using this
  refine ⟨vout, ?_, hsize, k2, k3⟩
  · have hn1 : ¬ (len * zv.cells.size > 2 ^ 24) := by omega
    simp only [Instr.buildSlice, Sem.run_bind, run_underlying hu, Result.andThen_ok, hsz, hn1, ↓reduceIte]
    by_cases h0 : len * zv.cells.size = 0
    · have hl0 : len = 0 := by
        rcases Nat.mul_eq_zero.1 h0 with h | h
        · exact h
        · omega
      subst hl0
      have k1' : Instr.fill (fun i => some (i * zv.cells.size, zv.cells.size)) #[] vparts = some vout := by simpa [Array.range_zero'] using k1
      simp [Array.range_zero', k1', run_newRow]
    · have hzv : (zeroValue e).run P E.w = .ok zv E.w := by simp [zeroValue, typeInfo, h1, h2]
      simp only [h0, ↓reduceIte, Sem.run_bind, hzv, Sem.run_pure, Result.andThen_ok]
      rw [k1]
      simp [run_newRow]
theorem buildSlice_ok {P : Program} {E : Env} (hc : Conc E) {t : TypeId} {len : Nat} {parts : List (Nat × DV)} {vparts : List (Nat × Value)} (hl : parts.length = vparts.length)
    (hp : ∀ (j : Nat) (p : Nat × DV) (q : Nat × Value), parts[j]? = some p → vparts[j]? = some q → p.1 = q.1 ∧ Rep E p.2 q.2) {K : DV → Store → Prop} (h : buildSliceD P E.st t len parts K) :
    Ends P E (Instr.buildSlice t len vparts.toArray) K := by
  unfold buildSliceD at h
  split at h
  · rename_i e sz hs
    obtain ⟨hlim, h⟩ := h
    split at h
    · rename_i z hz
      obtain ⟨hzl, hpos, h⟩ := h
      split at h
      · rename_i cs hcs
        obtain ⟨vout, hrun, hsize, k2, k3⟩ := buildSlice_run (P := P) hl hp hs hlim hz hzl hpos hcs
        have hout := k2.length
        obtain ⟨c1, c2⟩ := newBox hc vout e cs false (by rw [hout]; simp) (fun _ => by rw [hout]; simp) trivial
          (fun j d hj => by
            obtain ⟨u, e1, e2⟩ := k2.get _ _ j d hj
            exact ⟨u, by simpa using e1, oneL k3 e1, e2⟩) (fun j u hj => oneL k3 (by simpa using hj))
        refine ⟨.slice (some ⟨E.w.heap.size, 0, none⟩) len len, _, _, hrun, h, c1, c2, ?_⟩
        exact view_new E _ _ _ _ _ len len ⟨e, cs, false, 0, true⟩ hc.len (by rw [hsize]) (Nat.le_refl _) (by
          have : len * 1 ≤ len * sz := Nat.mul_le_mul_left _ hpos
          simp only [maxLen]; omega)
      · exact h.elim
    · exact h.elim
  · exact h.elim
/-- 'make': the first l elements are known; room behind them isn't looked at. -/
def makeD (P : Program) (st : Store) (t : TypeId) (l c : DV) (K : DV → Store → Prop) : Prop :=
  match slD P t, intOfD l, intOfD c with
  | some (e, sz), some l, some c => match zeroD P e, P.info? e with
    | some z, some i => z.length = sz ∧ 0 < sz ∧ (0 ≤ l ∧ l ≤ c ∧ c ≤ 281474976710656 ∧ i.bytes * c ≤ 281474976710656 ∧ c * sz ≤ 9223372036854775807) ∧
        (l = c → K (.view sz st.length 0 0 l.toNat) (st ++ [⟨e, (List.replicate l.toNat z).flatten, false, 0, true⟩])) ∧
        (l < c → K (.view sz st.length 0 0 l.toNat) (st ++ [⟨e, (List.replicate l.toNat z).flatten, true, 0, true⟩]))
    | _, _ => False
  | _, _, _ => False
theorem rep_prefix {α : Type} (z : List α) (m n : Nat) (h : m ≤ n) (j : Nat) (x : α) (hx : (List.replicate m z).flatten[j]? = some x) : (List.replicate n z).flatten[j]? = some x := by
  obtain ⟨k, rfl⟩ : ∃ k, n = m + k := ⟨n - m, by omega⟩
  rw [← List.replicate_append_replicate, List.flatten_append, List.getElem?_append_left (List.getElem?_eq_some_iff.1 hx).1]
  exact hx
theorem make_ok {P : Program} {E : Env} (hc : Conc E) {t : TypeId} {x y : DV} {vl vc : Value} (hx : Rep E x vl) (hy : Rep E y vc) {K : DV → Store → Prop} (h : makeD P E.st t x y K) :
    Ends P E (Instr.makeSlice t vl vc) K := by
  unfold makeD at h
  split at h
  · rename_i e sz l c hs hl hcc
    obtain ⟨kl, rfl⟩ := intOfD_spec hl
    obtain ⟨kc, rfl⟩ := intOfD_spec hcc
    simp only [Rep, RepP] at hx hy
    subst hx; subst hy
    split at h
    · rename_i z i hz hi
      obtain ⟨hzl, hpos, ⟨b0, b1, b2, b3, b4⟩, h1, h2⟩ := h
      obtain ⟨zv, i', e1, e2, e3, e4, e5, rfl⟩ := zeroD_spec hz
      rw [hi] at e1
      cases e1
      simp only [List.length_map, Array.length_toList] at hzl
      subst hzl
      obtain ⟨hu, _, hsz⟩ := slD_spec hs
      have hr := run_make (P := P) E.w t e i zv hu hi e2 kl kc l c b0 b1 b3 (by omega)
      have hmc : madeCells zv.cells (c.toNat * i.size) = (Array.range (c.toNat * zv.cells.size)).map (zv.cells[· % zv.cells.size]!) := by rw [← e3]; rfl
      have hze := zeros_eq zv.cells c.toNat hpos
      have hsize : (madeCells zv.cells (c.toNat * i.size)).size = c.toNat * zv.cells.size := by rw [size_madeCells, e3]
      have hle : l.toNat * zv.cells.size ≤ c.toNat * zv.cells.size := Nat.mul_le_mul_right _ (by omega)
      have hR := reps_flat (E := E) _ _ (zero_reps E zv.cells.toList) c.toNat
      have key : ∀ ext : Bool, (ext = false → l = c) → Conc ⟨E.w.alloc (.cells (madeCells zv.cells (c.toNat * i.size)) e), E.S, E.σ ++ [(E.w.heap.size, (madeCells zv.cells (c.toNat * i.size)).size)], E.st ++ [⟨e, (List.replicate l.toNat (zv.cells.toList.map fun v => DV.d (.sc v))).flatten, ext, 0, true⟩]⟩ ∧
          Ext E ⟨E.w.alloc (.cells (madeCells zv.cells (c.toNat * i.size)) e), E.S, E.σ ++ [(E.w.heap.size, (madeCells zv.cells (c.toNat * i.size)).size)], E.st ++ [⟨e, (List.replicate l.toNat (zv.cells.toList.map fun v => DV.d (.sc v))).flatten, ext, 0, true⟩]⟩ := fun ext hext =>
        newBox hc _ e _ ext (by rw [hsize]; simpa using hle) (fun he => by rw [hsize, hext he]; simp) trivial
          (fun j d hj => by
            obtain ⟨u, g1, g2⟩ := hR.get _ _ j d (rep_prefix _ l.toNat c.toNat (by omega) j d hj)
            refine ⟨u, ?_, ?_, g2⟩
            · rw [hmc, ← Array.getElem?_toList, hze]; exact g1
            · have := List.mem_of_getElem? g1
              simp only [List.mem_flatten, List.mem_replicate] at this
              obtain ⟨l, ⟨_, rfl⟩, hm⟩ := this
              exact e4 u hm)
          (fun j u hj => by
            rw [hmc, ← Array.getElem?_toList, hze] at hj
            have := List.mem_of_getElem? hj
            simp only [List.mem_flatten, List.mem_replicate] at this
            obtain ⟨l, ⟨_, rfl⟩, hm⟩ := this
            exact e4 u hm)
      have hcm : c.toNat ≤ maxLen := by simp only [maxLen]; omega
      by_cases hlc : l = c
      · obtain ⟨c1, c2⟩ := key false (fun _ => hlc)
        exact ⟨_, _, _, hr, h1 hlc, c1, c2, view_new E _ _ _ _ _ l.toNat c.toNat ⟨e, _, false, 0, true⟩ hc.len (by rw [hsize]) (by omega) hcm⟩
      · obtain ⟨c1, c2⟩ := key true (fun h => by cases h)
        exact ⟨_, _, _, hr, h2 (by omega), c1, c2, view_new E _ _ _ _ _ l.toNat c.toNat ⟨e, _, true, 0, true⟩ hc.len (by rw [hsize]) (by omega) hcm⟩
    · exact h.elim
  · exact h.elim
end Go.Proofs.Ytmjmbfcfnhnpmaa
