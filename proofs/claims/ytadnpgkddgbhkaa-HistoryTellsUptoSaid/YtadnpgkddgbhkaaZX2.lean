/- The program logic, second part: slots, new boxes, boxes that turn. No condition: lemmas of any program. -/
import Derived.Test.YtadnpgkddgbhkaaZX1
import Derived.Maps.AppendAt
import Derived.Laws.CopyRow
import Derived.Lib.AppendStr
namespace Go.Proofs.Ytadnpgkddgbhkaa
open Go.RowKit
set_option linter.all false
theorem upd_is : ∃ f : Slots → Nat → DV → Slots, ∀ s k v i, f s k v i = if i = k then v else s i := ⟨fun s k v i => if i = k then v else s i, fun _ _ _ _ => rfl⟩
noncomputable def upd : Slots → Nat → DV → Slots := Classical.choose upd_is
theorem upd_eq (s : Slots) (k : Nat) (v : DV) (i : Nat) : upd s k v i = if i = k then v else s i := Classical.choose_spec upd_is s k v i
theorem upd_same (s : Slots) (k : Nat) (v : DV) : upd s k v k = v := by simp [upd_eq]
theorem upd_ne (s : Slots) (k : Nat) (v : DV) (i : Nat) (h : (i == k) = false) : upd s k v i = s i := by
 have : i ≠ k := by simpa using h
 simp [upd_eq, this]
def ev (s : Slots) : Operand → DV
 | .tmp t => s t
 | .const v => .d (.sc v)
 | .global g => .d (.sc (.pointer (some ⟨g, 0, none⟩)))
 | .func f => .d (.sc (.func (.func f) #[] #[]))
structure SlotsOk (E : Env) (N : Nat) (s : Slots) (a : Act) : Prop where
 size : a.tmps.size = N
 rep : ∀ i, Rep E (s i) (a.tmps.getD i undef)
 defers : a.defers = []
theorem ev_rep {E : Env} {N : Nat} {s : Slots} {a : Act} (h : SlotsOk E N s a) (x : Operand) : Rep E (ev s x) (a.eval x) := by
 cases x with
 | tmp t => exact h.rep t
 | const v => simp [ev, Rep, RepP, Act.eval]
 | global g => simp [ev, Rep, RepP, Act.eval]
 | func f => simp [ev, Rep, RepP, Act.eval]
theorem SlotsOk.put {E : Env} {N : Nat} {s : Slots} {a : Act} (h : SlotsOk E N s a) {k : Nat} (hk : k < N) {d : DV} {v : Value} (hv : Rep E d v) : SlotsOk E N (upd s k d) (a.put (some k) v) := by
 refine ⟨by simp [Act.put, h.size], fun i => ?_, h.defers⟩
 have hs := h.size
 by_cases hi : i = k
 ·subst hi
  rw [upd_same]
  simp only [Act.put]
  rw [Array.getD_eq_getD_getElem?, Array.getElem?_setIfInBounds]
  simpa [hs, hk] using hv
 ·rw [upd_ne _ _ _ _ (by simpa using hi)]
  have := h.rep i
  simp only [Act.put]
  rw [Array.getD_eq_getD_getElem?, Array.getElem?_setIfInBounds]
  rw [Array.getD_eq_getD_getElem?] at this
  simpa [Ne.symm hi, show ¬ k = i from fun e => hi e.symm] using this
theorem SlotsOk.ext {E E' : Env} {N : Nat} {s : Slots} {a : Act} (hc : Conc E) (h : SlotsOk E N s a) (hx : Ext E E') : SlotsOk E' N s a :=
 ⟨h.size, fun i => Rep.ext hc hx _ _ (h.rep i), h.defers⟩
theorem SlotsOk.put' {E : Env} {N : Nat} {s : Slots} {a : Act} (h : SlotsOk E N s a) (v : Value) : SlotsOk E N s (a.put none v) := ⟨h.size, h.rep, h.defers⟩
theorem newBoxAt {E : Env} (hc : Conc E) (w' : World) (g0 : Nat) (hg0 : E.w.heap.size ≤ g0) (hsz : E.w.heap.size ≤ w'.heap.size) (hos : w'.os = E.w.os) (htape : w'.tape = E.w.tape) (hout : w'.output = E.w.output)
  (hold : ∀ k, k < E.w.heap.size → w'.heap[k]? = E.w.heap[k]?) (cur : Array Value) (ty : TypeId) (ds : List DV) (ext : Bool) (hnew : w'.heap[g0]? = some (.cells cur ty (0, 0))) (hlen : ds.length ≤ cur.size) (hext : ext = false → ds.length = cur.size) (hmax : True)
  (hrep : ∀ (j : Nat) (d : DV), ds[j]? = some d → ∃ u, cur[j]? = some u ∧ u.oneCell' = true ∧ Rep E d u) (hone : ∀ (j : Nat) (u : Value), cur[j]? = some u → u.oneCell' = true) :
  Conc ⟨w', E.S, E.σ ++ [(g0, cur.size)], E.st ++ [⟨ty, ds, ext, 0, true⟩]⟩ ∧
  Ext E ⟨w', E.S, E.σ ++ [(g0, cur.size)], E.st ++ [⟨ty, ds, ext, 0, true⟩]⟩ := by
 have hl := hc.len
 have hx : Ext E ⟨w', E.S, E.σ ++ [(g0, cur.size)], E.st ++ [⟨ty, ds, ext, 0, true⟩]⟩ := by
  refine ⟨hsz, hos, htape, hout, fun _ h => h, fun _ h => .inl h, fun g hg _ => hold g hg, fun b bx gz h1 h2 => ?_, fun b gz h1 h2 => ?_⟩
  ·have hb := (List.getElem?_eq_some_iff.1 h1).1
   refine ⟨bx, gz, ?_, ?_, Nat.le_refl _, fun _ => rfl, id, .inl rfl⟩
   ·rw [List.getElem?_append_left hb]; exact h1
   ·rw [List.getElem?_append_left (by omega)]; exact h2
  ·have hb := List.getElem?_eq_none_iff.1 h1
   rw [List.getElem?_append_right hb] at h2
   cases hk : b - E.σ.length with
   | zero => rw [hk] at h2; simp at h2; subst h2; simpa using hg0
   | succ k => rw [hk] at h2; simp at h2
 refine ⟨⟨by simp [hl], fun b bx g z h1 h2 hlive => ?_, fun b b' g z g' z' h1 h2 he => ?_, fun g hg => Nat.lt_of_lt_of_le (hc.old g hg) hx.size, fun b g z h => ?_⟩, hx⟩
 ·by_cases hb : b < E.st.length
  ·simp only at h1 h2
   rw [List.getElem?_append_left hb] at h1
   rw [List.getElem?_append_left (by omega)] at h2
   obtain ⟨cur', a1, a2, a3, a4, a5, a6, a7, a8⟩ := hc.box b bx g z h1 h2 hlive
   refine ⟨cur', ?_, a2, a3, a4, a5, a6, fun j d hj => ?_, a8⟩
   ·rw [hold g (hc.lt b g z h2)]; exact a1
   ·obtain ⟨u, b1, b2, b3⟩ := a7 j d hj
    exact ⟨u, b1, b2, Rep.ext hc hx d u b3⟩
  ·simp only at h1 h2
   rw [List.getElem?_append_right (by omega)] at h1
   rw [List.getElem?_append_right (by omega), hl] at h2
   cases hk : b - E.st.length with
   | zero =>
     rw [hk] at h1 h2
     simp at h1 h2
     obtain ⟨rfl, rfl⟩ := h2
     subst h1
     refine ⟨cur, hnew, rfl, hlen, hext, hmax, fun hS => absurd (hc.old _ hS) (by omega), fun j d hj => ?_, hone⟩
     obtain ⟨u, b1, b2, b3⟩ := hrep j d hj
     exact ⟨u, b1, b2, Rep.ext hc hx d u b3⟩
   | succ k => rw [hk] at h1; simp at h1
 ·subst he
  have key : ∀ (b z : Nat), (E.σ ++ [(g0, cur.size)])[b]? = some (g, z) → (E.σ[b]? = some (g, z) ∧ g < E.w.heap.size) ∨ (b = E.σ.length ∧ g = g0) := by
   intro b z h
   by_cases hb : b < E.σ.length
   ·rw [List.getElem?_append_left hb] at h
    exact .inl ⟨h, hc.lt b g z h⟩
   ·rw [List.getElem?_append_right (by omega)] at h
    cases hk : b - E.σ.length with
    | zero => rw [hk] at h; simp at h; exact .inr ⟨by omega, h.1.symm⟩
    | succ k => rw [hk] at h; simp at h
  rcases key b z h1 with ⟨p, q⟩ | ⟨p, q⟩ <;> rcases key b' z' h2 with ⟨p', q'⟩ | ⟨p', q'⟩
  ·exact hc.inj b b' g z g z' p p' rfl
  ·omega
  ·omega
  ·omega
 ·by_cases hb : b < E.σ.length
  ·simp only at h
   rw [List.getElem?_append_left hb] at h
   exact Nat.lt_of_lt_of_le (hc.lt b g z h) hx.size
  ·simp only at h
   rw [List.getElem?_append_right (by omega)] at h
   cases hk : b - E.σ.length with
   | zero =>
     rw [hk] at h
     simp at h
     simp only
     rw [← h.1]
     rcases Nat.lt_or_ge g0 w'.heap.size with h3 | h3
     ·exact h3
     ·rw [Array.getElem?_eq_none h3] at hnew; cases hnew
   | succ k => rw [hk] at h; simp at h
theorem newBox {E : Env} (hc : Conc E) (cur : Array Value) (ty : TypeId) (ds : List DV) (ext : Bool) (hlen : ds.length ≤ cur.size) (hext : ext = false → ds.length = cur.size) (hmax : True)
  (hrep : ∀ (j : Nat) (d : DV), ds[j]? = some d → ∃ u, cur[j]? = some u ∧ u.oneCell' = true ∧ Rep E d u) (hone : ∀ (j : Nat) (u : Value), cur[j]? = some u → u.oneCell' = true) :
  Conc ⟨E.w.alloc (.cells cur ty), E.S, E.σ ++ [(E.w.heap.size, cur.size)], E.st ++ [⟨ty, ds, ext, 0, true⟩]⟩ ∧
  Ext E ⟨E.w.alloc (.cells cur ty), E.S, E.σ ++ [(E.w.heap.size, cur.size)], E.st ++ [⟨ty, ds, ext, 0, true⟩]⟩ :=
 newBoxAt hc (E.w.alloc (.cells cur ty)) E.w.heap.size (Nat.le_refl _) (by simp) rfl rfl rfl (fun k hk => heap_alloc_old _ _ hk) cur ty ds ext (heap_alloc_new _ _) hlen hext hmax hrep hone
theorem turnBox {E : Env} (hc : Conc E) {b g z : Nat} {bx : Box} (hb : E.st[b]? = some bx) (hg : E.σ[b]? = some (g, z)) (w' : World) (g' z' : Nat) (cur' : Array Value) (bx' : Box)
  (hsz : E.w.heap.size ≤ w'.heap.size) (hos : w'.os = E.w.os) (htape : w'.tape = E.w.tape) (hout : w'.output = E.w.output)
  (hheap : ∀ k, k < E.w.heap.size → k ≠ g → w'.heap[k]? = E.w.heap[k]?) (hlive : bx.live = true)
  (hg' : w'.heap[g']? = some (.cells cur' bx'.ty (0, 0))) (hz' : cur'.size = z') (hver : bx.ver ≤ bx'.ver) (hsame : bx.ver = bx'.ver → (g, z) = (g', z'))
  (hpos : g' = g ∨ E.w.heap.size ≤ g') (hlen : bx'.cells.length ≤ z') (hext : bx'.ext = false → bx'.cells.length = z') (hmax : True)
  (hrep : ∀ (j : Nat) (d : DV), bx'.cells[j]? = some d → ∃ u, cur'[j]? = some u ∧ u.oneCell' = true ∧ Rep E d u) (hone : ∀ (j : Nat) (u : Value), cur'[j]? = some u → u.oneCell' = true) :
  Conc ⟨w', E.S, E.σ.set b (g', z'), E.st.set b bx'⟩ ∧ Ext E ⟨w', E.S, E.σ.set b (g', z'), E.st.set b bx'⟩ := by
 have hl := hc.len
 have hbl := (List.getElem?_eq_some_iff.1 hb).1
 have hgl := (List.getElem?_eq_some_iff.1 hg).1
 have hx : Ext E ⟨w', E.S, E.σ.set b (g', z'), E.st.set b bx'⟩ := by
  refine ⟨hsz, hos, htape, hout, fun _ h => h, fun _ h => .inl h, fun k hk hn => ?_, fun b2 bx2 gz h1 h2 => ?_, fun b2 gz h1 h2 => ?_⟩
  ·refine hheap k hk fun e => ?_
   subst e
   have := hn b z bx hg hb
   rw [hlive] at this
   cases this
  ·by_cases e : b2 = b
   ·subst e
    rw [hb] at h1
    rw [hg] at h2
    cases h1
    cases h2
    exact ⟨bx', (g', z'), by simp [hbl], by simp [hgl], hver, hsame, fun h => by (rw [hlive] at h; cases h), hpos⟩
   ·exact ⟨bx2, gz, by simp [Ne.symm e, h1], by simp [Ne.symm e, h2], Nat.le_refl _, fun _ => rfl, id, .inl rfl⟩
  ·have : b2 ≠ b := fun e => by subst e; rw [hg] at h1; cases h1
   simp [Ne.symm this, h1] at h2
 have key : ∀ (b2 g2 z2 : Nat), (E.σ.set b (g', z'))[b2]? = some (g2, z2) → (b2 = b ∧ g2 = g' ∧ z2 = z') ∨ (b2 ≠ b ∧ E.σ[b2]? = some (g2, z2)) := by
  intro b2 g2 z2 h
  by_cases e : b2 = b
  ·subst e
   simp [hgl] at h
   exact .inl ⟨rfl, h.1.symm, h.2.symm⟩
  ·simp [Ne.symm e] at h
   exact .inr ⟨e, h⟩
 refine ⟨⟨by simp [hl], fun b2 bx2 g2 z2 h1 h2 hlive2 => ?_, fun b2 b3 g2 z2 g3 z3 h1 h2 he => ?_, fun k hk => Nat.lt_of_lt_of_le (hc.old k hk) hsz, fun b2 g2 z2 h => ?_⟩, hx⟩
 ·rcases key b2 g2 z2 h2 with ⟨rfl, rfl, rfl⟩ | ⟨e, h2'⟩
  ·simp [hbl] at h1
   subst h1
   refine ⟨cur', hg', hz', hlen, hext, hmax, fun hS => ?_, fun j d hj => ?_, hone⟩
   ·rcases hpos with hp | hp
    ·obtain ⟨_, _, _, _, _, _, hnS, _⟩ := hc.box b2 bx g z hb hg hlive
     rw [hp] at hS
     exact hnS hS
    ·exact absurd (hc.old _ hS) (by omega)
   ·obtain ⟨u, b1, b2, b3⟩ := hrep j d hj
    exact ⟨u, b1, b2, Rep.ext hc hx d u b3⟩
  ·simp [Ne.symm e] at h1
   obtain ⟨cur2, a1, a2, a3, a4, a5, a6, a7, a8⟩ := hc.box b2 bx2 g2 z2 h1 h2' hlive2
   refine ⟨cur2, ?_, a2, a3, a4, a5, a6, fun j d hj => ?_, a8⟩
   ·rw [hheap g2 (hc.lt b2 g2 z2 h2') fun e2 => e (hc.inj b2 b g2 z2 g z h2' hg e2)]
    exact a1
   ·obtain ⟨u, c1, c2, c3⟩ := a7 j d hj
    exact ⟨u, c1, c2, Rep.ext hc hx d u c3⟩
 ·subst he
  have hgz := hc.lt b g z hg
  rcases key b2 g2 z2 h1 with ⟨rfl, rfl, rfl⟩ | ⟨e, h1'⟩ <;> rcases key b3 _ z3 h2 with ⟨rfl, e3, rfl⟩ | ⟨e', h2'⟩
  ·rfl
  ·have h3 := hc.lt b3 _ z3 h2'
   rcases hpos with hp | hp
   ·subst hp; exact hc.inj _ _ _ _ _ _ hg h2' rfl
   ·omega
  ·have h3 := hc.lt b2 _ z2 h1'
   rcases hpos with hp | hp
   ·subst e3; subst hp; exact hc.inj _ _ _ _ _ _ h1' hg rfl
   ·omega
  ·exact hc.inj b2 b3 g2 z2 g2 z3 h1' h2' rfl
 ·rcases key b2 g2 z2 h with ⟨rfl, rfl, rfl⟩ | ⟨e, h'⟩
  ·rcases Nat.lt_or_ge g2 w'.heap.size with h3 | h3
   ·exact h3
   ·rw [Array.getElem?_eq_none h3] at hg'
    cases hg'
  ·exact Nat.lt_of_lt_of_le (hc.lt b2 g2 z2 h') hsz
theorem newSet {E : Env} (hc : Conc E) (o : Obj) (w' : World) (hw : w'.heap = E.w.heap.push o) (hos : w'.os = E.w.os) (htape : w'.tape = E.w.tape) (hout : w'.output = E.w.output) :
  Conc ⟨w', fun g => E.S g ∨ g = E.w.heap.size, E.σ, E.st⟩ ∧ Ext E ⟨w', fun g => E.S g ∨ g = E.w.heap.size, E.σ, E.st⟩ := by
 have hold : ∀ k, k < E.w.heap.size → w'.heap[k]? = E.w.heap[k]? := fun k hk => by rw [hw, Array.getElem?_push, if_neg (by omega)]
 have hsz : w'.heap.size = E.w.heap.size + 1 := by rw [hw]; simp
 have hx : Ext E ⟨w', fun g => E.S g ∨ g = E.w.heap.size, E.σ, E.st⟩ :=
  ⟨by simp only; omega, hos, htape, hout, fun _ h => .inl h, fun g h => by rcases h with h | h; exact .inl h; exact .inr (.inl (by omega)), fun k hk _ => hold k hk,
    fun b bx gz h1 h2 => ⟨bx, gz, h1, h2, Nat.le_refl _, fun _ => rfl, id, .inl rfl⟩, fun b gz h1 h2 => by simp only at h2; rw [h1] at h2; cases h2⟩
 refine ⟨⟨hc.len, fun b bx g z h1 h2 hl => ?_, hc.inj, fun g h => ?_, fun b g z h => by have := hc.lt b g z h; simp only; omega⟩, hx⟩
 ·obtain ⟨cur', a1, a2, a3, a4, a5, a6, a7, a8⟩ := hc.box b bx g z h1 h2 hl
  have hlt := hc.lt b g z h2
  refine ⟨cur', ?_, a2, a3, a4, a5, fun h => ?_, fun j d hj => ?_, a8⟩
  ·rw [hold g hlt]; exact a1
  ·rcases h with h | h
   ·exact a6 h
   ·omega
  ·obtain ⟨u, b1, b2, b3⟩ := a7 j d hj
   exact ⟨u, b1, b2, Rep.ext hc hx d u b3⟩
 ·rcases h with h | h
  ·have := hc.old g h; simp only; omega
  ·simp only; omega
theorem newNone {E : Env} (hc : Conc E) (w' : World) (hsz : E.w.heap.size ≤ w'.heap.size) (hw : ∀ k, k < E.w.heap.size → w'.heap[k]? = E.w.heap[k]?) (hos : w'.os = E.w.os) (htape : w'.tape = E.w.tape) (hout : w'.output = E.w.output) :
  Conc ⟨w', E.S, E.σ, E.st⟩ ∧ Ext E ⟨w', E.S, E.σ, E.st⟩ := by
 have hx : Ext E ⟨w', E.S, E.σ, E.st⟩ :=
  ⟨hsz, hos, htape, hout, fun _ h => h, fun g h => .inl h, fun k hk _ => hw k hk,
    fun b bx gz h1 h2 => ⟨bx, gz, h1, h2, Nat.le_refl _, fun _ => rfl, id, .inl rfl⟩, fun b gz h1 h2 => by simp only at h2; rw [h1] at h2; cases h2⟩
 refine ⟨⟨hc.len, fun b bx g z h1 h2 hl => ?_, hc.inj, fun g h => Nat.lt_of_lt_of_le (hc.old g h) hsz, fun b g z h => Nat.lt_of_lt_of_le (hc.lt b g z h) hsz⟩, hx⟩
 obtain ⟨cur', a1, a2, a3, a4, a5, a6, a7, a8⟩ := hc.box b bx g z h1 h2 hl
 refine ⟨cur', ?_, a2, a3, a4, a5, a6, fun j d hj => ?_, a8⟩
 ·rw [hw g (hc.lt b g z h2)]; exact a1
 ·obtain ⟨u, b1, b2, b3⟩ := a7 j d hj
  exact ⟨u, b1, b2, Rep.ext hc hx d u b3⟩
end Go.Proofs.Ytadnpgkddgbhkaa
