/- A program logic over pure states: what the slots and the boxes of a call hold is kept as plain data; here: the data, what a value of the model stands for, how that is kept as the world goes on. No condition: the lemmas are of any program. -/
import Derived.WalkKit
import Derived.WalkLawsBesides
namespace Go.Proofs.Ytadnpgkddgbhkaa
open Go.RowKit
set_option linter.all false
inductive PD where
 | sc (v : Value)
 | slc (sz : Nat) (xs : List (List PD))
inductive DV where
 | any
 | d (p : PD)
 | agg (cs : List DV)
 | tup (vs : List DV)
 | ref (b ver o : Nat)
 | cref (cs : List PD)
 | view (sz b ver o n : Nat)
 | fn (f : FuncId) (captured : List DV)
structure Box where
 ty : TypeId
 cells : List DV
 ext : Bool
 ver : Nat
 live : Bool
abbrev Store := List Box
abbrev Slots := Nat → DV
mutual
def RepP (w : World) (S : Nat → Prop) : PD → Value → Prop
 | .sc v, u => u = v
 | .slc sz xs, u => (xs = [] ∧ u = .slice none 0 0) ∨ ∃ a c, u = .slice (some a) xs.length c ∧ xs.length ≤ c ∧ c ≤ maxLen ∧ (xs ≠ [] → S a.block) ∧ RowsP w S sz xs a
def RowsP (w : World) (S : Nat → Prop) (sz : Nat) : List (List PD) → Addr → Prop
 | [], _ => True
 | x :: xs, a => x.length = sz ∧ CellsP w S x a ∧ RowsP w S sz xs (a.add sz)
def CellsP (w : World) (S : Nat → Prop) : List PD → Addr → Prop
 | [], _ => True
 | p :: ps, a => (∃ u, w.cell? a = some u ∧ u.oneCell' = true ∧ RepP w S p u) ∧ CellsP w S ps (a.add 1)
end
structure Env where
 w : World
 S : Nat → Prop
 σ : List (Nat × Nat)
 st : Store
mutual
def Rep (E : Env) : DV → Value → Prop
 | .any, _ => True
 | .d p, u => RepP E.w E.S p u
 | .agg cs, u => ∃ vs : List Value, u = .agg vs.toArray ∧ (∀ x ∈ vs, x.oneCell' = true) ∧ Reps E cs vs
 | .tup cs, u => ∃ vs : List Value, u = .tuple vs.toArray ∧ Reps E cs vs
 | .ref b ver o, u => ∃ (bx : Box) (gz : Nat × Nat), E.st[b]? = some bx ∧ E.σ[b]? = some gz ∧ u.oneCell' = true ∧ ver ≤ bx.ver ∧ (ver = bx.ver → u = .pointer (some ⟨gz.1, o, none⟩))
 | .cref cs, u => ∃ a, u = .pointer (some a) ∧ (cs ≠ [] → E.S a.block) ∧ CellsP E.w E.S cs a
 | .view sz b ver o n, u => ∃ (bx : Box) (gz : Nat × Nat), E.st[b]? = some bx ∧ E.σ[b]? = some gz ∧ u.oneCell' = true ∧ ver ≤ bx.ver ∧
    (ver = bx.ver → ∃ c, u = .slice (some ⟨gz.1, o, none⟩) n c ∧ n ≤ c ∧ c ≤ maxLen ∧ o + c * sz = gz.2)
 | .fn f cap, u => ∃ vs : List Value, u = .func (.func f) #[] vs.toArray ∧ Reps E cap vs
def Reps (E : Env) : List DV → List Value → Prop
 | [], [] => True
 | d :: ds, v :: vs => Rep E d v ∧ Reps E ds vs
 | _, _ => False
end
structure Conc (E : Env) : Prop where
 len : E.σ.length = E.st.length
 box : ∀ (b : Nat) (bx : Box) (g z : Nat), E.st[b]? = some bx → E.σ[b]? = some (g, z) → bx.live = true → ∃ cur, E.w.heap[g]? = some (.cells cur bx.ty (0, 0)) ∧ cur.size = z ∧
  bx.cells.length ≤ z ∧ (bx.ext = false → bx.cells.length = z) ∧ True ∧ ¬ E.S g ∧
  (∀ (j : Nat) (d : DV), bx.cells[j]? = some d → ∃ u, cur[j]? = some u ∧ u.oneCell' = true ∧ Rep E d u) ∧ ∀ (j : Nat) (u : Value), cur[j]? = some u → u.oneCell' = true
 inj : ∀ (b b' g z g' z' : Nat), E.σ[b]? = some (g, z) → E.σ[b']? = some (g', z') → g = g' → b = b'
 old : ∀ g, E.S g → g < E.w.heap.size
 lt : ∀ (b g z : Nat), E.σ[b]? = some (g, z) → g < E.w.heap.size
structure Ext (E E' : Env) : Prop where
 size : E.w.heap.size ≤ E'.w.heap.size
 os : E'.w.os = E.w.os
 tape : E'.w.tape = E.w.tape
 output : E'.w.output = E.w.output
 set : ∀ g, E.S g → E'.S g
 fresh : ∀ g, E'.S g → E.S g ∨ E.w.heap.size ≤ g ∨ ∃ b z : Nat, E.σ[b]? = some (g, z)
 heap : ∀ g, g < E.w.heap.size → (∀ (b z : Nat) (bx : Box), E.σ[b]? = some (g, z) → E.st[b]? = some bx → bx.live = false) → E'.w.heap[g]? = E.w.heap[g]?
 box : ∀ (b : Nat) (bx : Box) (gz : Nat × Nat), E.st[b]? = some bx → E.σ[b]? = some gz → ∃ (bx' : Box) (gz' : Nat × Nat), E'.st[b]? = some bx' ∧ E'.σ[b]? = some gz' ∧ bx.ver ≤ bx'.ver ∧
  (bx.ver = bx'.ver → gz = gz') ∧ (bx.live = false → bx'.live = false) ∧ (gz'.1 = gz.1 ∨ E.w.heap.size ≤ gz'.1)
 new : ∀ (b : Nat) (gz : Nat × Nat), E.σ[b]? = none → E'.σ[b]? = some gz → E.w.heap.size ≤ gz.1
theorem Ext.refl (E : Env) : Ext E E :=
 ⟨Nat.le_refl _, rfl, rfl, rfl, fun _ h => h, fun _ h => .inl h, fun _ _ _ => rfl, fun _ bx gz h1 h2 => ⟨bx, gz, h1, h2, Nat.le_refl _, fun _ => rfl, id, .inl rfl⟩, fun _ _ h1 h2 => by rw [h1] at h2; cases h2⟩
theorem Ext.trans {E F G : Env} (hE : E.σ.length = E.st.length) (hF : F.σ.length = F.st.length) (h : Ext E F) (k : Ext F G) : Ext E G where
 size := Nat.le_trans h.size k.size
 os := k.os.trans h.os
 tape := k.tape.trans h.tape
 output := k.output.trans h.output
 set := fun g hg => k.set g (h.set g hg)
 fresh := fun g hg => by
  have hsz := h.size
  rcases k.fresh g hg with h1 | h1 | ⟨b, z, h1⟩
  ·exact h.fresh g h1
  ·exact .inr (.inl (by omega))
  ·cases hs : E.σ[b]? with
   | none => exact .inr (.inl (h.new b (g, z) hs h1))
   | some gz =>
     have hlt : b < E.st.length := by rw [← hE]; exact (List.getElem?_eq_some_iff.1 hs).1
     obtain ⟨bx', gz', _, h2, _, _, _, h5⟩ := h.box b _ gz (List.getElem?_eq_getElem hlt) hs
     rw [h1] at h2
     cases h2
     rcases h5 with h5 | h5
     ·simp at h5; subst h5; exact .inr (.inr ⟨b, gz.2, hs⟩)
     ·exact .inr (.inl h5)
 heap := fun g hg hn => by
  rw [k.heap g (Nat.lt_of_lt_of_le hg h.size) ?_, h.heap g hg hn]
  intro b z bx hb hst
  cases hs : E.σ[b]? with
  | none => have := h.new b (g, z) hs hb; simp at this; omega
  | some gz =>
    have hlt : b < E.st.length := by rw [← hE]; exact (List.getElem?_eq_some_iff.1 hs).1
    obtain ⟨bx', gz', h1, h2, _, _, h4, h5⟩ := h.box b _ gz (List.getElem?_eq_getElem hlt) hs
    rw [hb] at h2
    cases h2
    rw [hst] at h1
    cases h1
    rcases h5 with h5 | h5
    ·simp at h5; subst h5; exact h4 (hn b gz.2 _ hs (List.getElem?_eq_getElem hlt))
    ·simp at h5; omega
 box := fun b bx gz h1 h2 => by
  obtain ⟨bx', gz', a1, a2, a3, a4, a6, a5⟩ := h.box b bx gz h1 h2
  obtain ⟨bx2, gz2, b1, b2, b3, b4, b6, b5⟩ := k.box b bx' gz' a1 a2
  refine ⟨bx2, gz2, b1, b2, Nat.le_trans a3 b3, fun he => ?_, fun hl => b6 (a6 hl), ?_⟩
  ·have e1 : bx.ver = bx'.ver := by omega
   have e2 : bx'.ver = bx2.ver := by omega
   exact (a4 e1).trans (b4 e2)
  ·have := h.size
   rcases b5 with b5 | b5
   ·rcases a5 with a5 | a5
    ·exact .inl (b5.trans a5)
    ·exact .inr (by omega)
   ·exact .inr (by omega)
 new := fun b gz h1 h2 => by
  cases hs : F.σ[b]? with
  | none => have := k.new b gz hs h2; have := h.size; omega
  | some gz' =>
    have h3 := h.new b gz' h1 hs
    cases hst : F.st[b]? with
    | none =>
      have h4 := (List.getElem?_eq_some_iff.1 hs).1
      have h5 := List.getElem?_eq_none_iff.1 hst
      omega
    | some bx =>
      obtain ⟨bx2, gz2, _, b2, _, _, _, b5⟩ := k.box b bx gz' hst hs
      rw [h2] at b2
      cases b2
      rcases b5 with b5 | b5
      ·rw [b5]; exact h3
      ·have := h.size; omega
def Kept (w w' : World) (S S' : Nat → Prop) : Prop := ∀ g, S g → S' g ∧ w'.heap[g]? = w.heap[g]?
theorem Kept.cell {w w' : World} {S S' : Nat → Prop} (h : Kept w w' S S') {a : Addr} (ha : S a.block) : w'.cell? a = w.cell? a := World.cell?_of_block (h _ ha).2
theorem block_add (a : Addr) (n : Nat) : (a.add n).block = a.block := by unfold Addr.add; split <;> rfl
theorem add_add' (a : Addr) (i j : Nat) : (a.add i).add j = a.add (i + j) := by
 unfold Addr.add
 by_cases hi : i = 0 <;> by_cases hj : j = 0 <;> simp [hi, hj, Nat.add_assoc]
mutual
theorem RepP.keep {w w' : World} {S S' : Nat → Prop} (h : Kept w w' S S') : ∀ (p : PD) (u : Value), RepP w S p u → RepP w' S' p u
 | .sc _, _, hr => hr
 | .slc sz xs, u, .inl h1 => .inl h1
 | .slc sz xs, u, .inr ⟨a, c, h1, h2, h3, h4, h5⟩ => .inr ⟨a, c, h1, h2, h3, fun hx => (h _ (h4 hx)).1, by
    cases xs with
    | nil => trivial
    | cons x xs => exact RowsP.keep h sz (x :: xs) a (h4 (by simp)) h5⟩
theorem RowsP.keep {w w' : World} {S S' : Nat → Prop} (h : Kept w w' S S') (sz : Nat) : ∀ (xs : List (List PD)) (a : Addr), S a.block → RowsP w S sz xs a → RowsP w' S' sz xs a
 | [], _, _, _ => trivial
 | x :: xs, a, ha, ⟨h1, h2, h3⟩ => ⟨h1, CellsP.keep h x a ha h2, RowsP.keep h sz xs (a.add sz) (by rw [block_add]; exact ha) h3⟩
theorem CellsP.keep {w w' : World} {S S' : Nat → Prop} (h : Kept w w' S S') : ∀ (ps : List PD) (a : Addr), S a.block → CellsP w S ps a → CellsP w' S' ps a
 | [], _, _, _ => trivial
 | p :: ps, a, ha, ⟨⟨u, h1, h2, h3⟩, h4⟩ => ⟨⟨u, (h.cell ha).trans h1, h2, RepP.keep h p u h3⟩, CellsP.keep h ps (a.add 1) (by rw [block_add]; exact ha) h4⟩
end
theorem Ext.kept {E E' : Env} (hc : Conc E) (h : Ext E E') : Kept E.w E'.w E.S E'.S := fun g hg =>
 ⟨h.set g hg, h.heap g (hc.old g hg) fun b z bx hb hst => by
   cases hl : bx.live with
   | false => rfl
   | true =>
     obtain ⟨_, _, _, _, _, _, hS, _⟩ := hc.box b _ g z hst hb hl
     exact (hS hg).elim⟩
mutual
theorem Rep.ext {E E' : Env} (hc : Conc E) (h : Ext E E') : ∀ (d : DV) (u : Value), Rep E d u → Rep E' d u
 | .any, _, _ => trivial
 | .d p, u, hr => RepP.keep (h.kept hc) p u hr
 | .agg cs, _, ⟨vs, h1, h3, h2⟩ => ⟨vs, h1, h3, Reps.ext hc h cs vs h2⟩
 | .tup cs, _, ⟨vs, h1, h2⟩ => ⟨vs, h1, Reps.ext hc h cs vs h2⟩
 | .fn _ cs, _, ⟨vs, h1, h2⟩ => ⟨vs, h1, Reps.ext hc h cs vs h2⟩
 | .ref b ver o, u, ⟨bx, gz, h1, h2, h0, h3, h4⟩ => by
    obtain ⟨bx', gz', a1, a2, a3, a4, _⟩ := h.box b bx gz h1 h2
    exact ⟨bx', gz', a1, a2, h0, by omega, fun e => by rw [← a4 (by omega)]; exact h4 (by omega)⟩
 | .cref cs, _, ⟨a, h1, h2, h3⟩ => ⟨a, h1, fun hx => h.set _ (h2 hx), by
    cases cs with
    | nil => trivial
    | cons c cs => exact CellsP.keep (h.kept hc) (c :: cs) a (h2 (by simp)) h3⟩
 | .view sz b ver o n, u, ⟨bx, gz, h1, h2, h0, h3, h4⟩ => by
    obtain ⟨bx', gz', a1, a2, a3, a4, _⟩ := h.box b bx gz h1 h2
    exact ⟨bx', gz', a1, a2, h0, by omega, fun e => by rw [← a4 (by omega)]; exact h4 (by omega)⟩
theorem Reps.ext {E E' : Env} (hc : Conc E) (h : Ext E E') : ∀ (ds : List DV) (vs : List Value), Reps E ds vs → Reps E' ds vs
 | [], [], _ => trivial
 | d :: ds, v :: vs, ⟨h1, h2⟩ => ⟨Rep.ext hc h d v h1, Reps.ext hc h ds vs h2⟩
 | [], _ :: _, h => h.elim
 | _ :: _, [], h => h.elim
end
theorem Reps.length {E : Env} : ∀ (ds : List DV) (vs : List Value), Reps E ds vs → ds.length = vs.length
 | [], [], _ => rfl
 | _ :: ds, _ :: vs, ⟨_, h⟩ => by simp [Reps.length ds vs h]
 | [], _ :: _, h => h.elim
 | _ :: _, [], h => h.elim
theorem Reps.get {E : Env} : ∀ (ds : List DV) (vs : List Value), Reps E ds vs → ∀ (j : Nat) (d : DV), ds[j]? = some d → ∃ v, vs[j]? = some v ∧ Rep E d v
 | d :: ds, v :: vs, ⟨h1, h2⟩, j, d', hj => by
     cases j with
     | zero => simp at hj; subst hj; exact ⟨v, rfl, h1⟩
     | succ j => simpa using Reps.get ds vs h2 j d' (by simpa using hj)
 | [], [], _, _, _, hj => by simp at hj
 | [], _ :: _, h, _, _, _ => h.elim
 | _ :: _, [], h, _, _, _ => h.elim
theorem Reps.of_get {E : Env} : ∀ (ds : List DV) (vs : List Value), ds.length = vs.length → (∀ (j : Nat) (d : DV) (v : Value), ds[j]? = some d → vs[j]? = some v → Rep E d v) → Reps E ds vs
 | [], [], _, _ => trivial
 | d :: ds, v :: vs, hl, h => ⟨h 0 d v rfl rfl, Reps.of_get ds vs (by simpa using hl) fun j d' v' h1 h2 => h (j + 1) d' v' (by simpa using h1) (by simpa using h2)⟩
 | [], _ :: _, h, _ => by simp at h
 | _ :: _, [], h, _ => by simp at h
theorem Reps.append {E : Env} : ∀ (ds ds' : List DV) (vs vs' : List Value), Reps E ds vs → Reps E ds' vs' → Reps E (ds ++ ds') (vs ++ vs')
 | [], _, [], _, _, h => h
 | _ :: ds, ds', _ :: vs, vs', ⟨h1, h2⟩, h => ⟨h1, Reps.append ds ds' vs vs' h2 h⟩
 | [], _, _ :: _, _, h, _ => h.elim
 | _ :: _, _, [], _, h, _ => h.elim
theorem CellsP.get {w : World} {S : Nat → Prop} : ∀ (ps : List PD) (a : Addr), CellsP w S ps a → ∀ (j : Nat) (p : PD), ps[j]? = some p → ∃ u, w.cell? (a.add j) = some u ∧ u.oneCell' = true ∧ RepP w S p u
 | p :: ps, a, ⟨h1, h2⟩, j, p', hj => by
     cases j with
     | zero => simp at hj; subst hj; simpa [Addr.add] using h1
     | succ j =>
       have := CellsP.get ps (a.add 1) h2 j p' (by simpa using hj)
       rwa [add_add', Nat.add_comm 1 j] at this
 | [], _, _, _, _, hj => by simp at hj
theorem CellsP.drop {w : World} {S : Nat → Prop} : ∀ (ps : List PD) (a : Addr) (k : Nat), CellsP w S ps a → CellsP w S (ps.drop k) (a.add k)
 | [], _, _, _ => by simp [CellsP]
 | p :: ps, a, 0, h => by simpa [Addr.add] using h
 | p :: ps, a, k + 1, ⟨_, h⟩ => by
     have := CellsP.drop ps (a.add 1) k h
     rwa [add_add', Nat.add_comm 1 k] at this
theorem RowsP.get {w : World} {S : Nat → Prop} {sz : Nat} : ∀ (xs : List (List PD)) (a : Addr), RowsP w S sz xs a → ∀ (i : Nat) (x : List PD), xs[i]? = some x → x.length = sz ∧ CellsP w S x (a.add (i * sz))
 | x :: xs, a, ⟨h1, h2, h3⟩, i, x', hi => by
     cases i with
     | zero => simp at hi; subst hi; simpa [Addr.add] using ⟨h1, h2⟩
     | succ i =>
       have := RowsP.get xs (a.add sz) h3 i x' (by simpa using hi)
       rwa [add_add', show sz + i * sz = (i + 1) * sz by rw [Nat.add_mul]; omega] at this
 | [], _, _, _, _, hj => by simp at hj
theorem RowsP.cut {w : World} {S : Nat → Prop} {sz : Nat} : ∀ (xs : List (List PD)) (a : Addr) (k : Nat), RowsP w S sz xs a → RowsP w S sz (xs.drop k) (a.add (k * sz))
 | [], _, _, _ => by simp [RowsP]
 | x :: xs, a, 0, h => by simpa [Addr.add] using h
 | x :: xs, a, k + 1, ⟨_, _, h⟩ => by
     have := RowsP.cut xs (a.add sz) k h
     rwa [add_add', show sz + k * sz = (k + 1) * sz by rw [Nat.add_mul]; omega] at this
theorem RowsP.take {w : World} {S : Nat → Prop} {sz : Nat} : ∀ (xs : List (List PD)) (a : Addr) (k : Nat), RowsP w S sz xs a → RowsP w S sz (xs.take k) a
 | [], _, _, _ => by simp [RowsP]
 | x :: xs, a, 0, h => trivial
 | x :: xs, a, k + 1, ⟨h1, h2, h⟩ => ⟨h1, h2, RowsP.take xs (a.add sz) k h⟩
theorem RowsP.flat {w : World} {S : Nat → Prop} {sz : Nat} : ∀ (xs : List (List PD)) (a : Addr), RowsP w S sz xs a → CellsP w S xs.flatten a ∧ xs.flatten.length = xs.length * sz
 | [], _, _ => ⟨trivial, by simp⟩
 | x :: xs, a, ⟨h1, h2, h3⟩ => by
     obtain ⟨i1, i2⟩ := RowsP.flat xs (a.add sz) h3
     refine ⟨?_, by simp [h1, i2, Nat.add_mul]; omega⟩
     rw [List.flatten_cons]
     exact CellsP.append x _ a h2 (by rw [h1]; exact i1)
where
 CellsP.append : ∀ (ps qs : List PD) (a : Addr), CellsP w S ps a → CellsP w S qs (a.add ps.length) → CellsP w S (ps ++ qs) a
 | [], qs, a, _, h => by simpa [Addr.add] using h
 | p :: ps, qs, a, ⟨h1, h2⟩, h => ⟨h1, CellsP.append ps qs (a.add 1) h2 (by rwa [add_add', Nat.add_comm 1])⟩
end Go.Proofs.Ytadnpgkddgbhkaa
