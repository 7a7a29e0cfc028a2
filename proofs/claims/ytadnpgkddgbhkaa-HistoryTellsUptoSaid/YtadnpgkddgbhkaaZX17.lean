/- The program logic, thirty-ninth part: loops of a known number of rounds. No condition: lemmas of any program. -/
import Derived.Test.YtadnpgkddgbhkaaZX15
import Derived.LoopN
namespace Go.Proofs.Ytadnpgkddgbhkaa
open Go.RowKit
set_option linter.all false
section
variable {P : Program} {T : Unit → Tab} (hT : TabOk P (T ())) {H : Unit → Kn} (hH : SoundK P (H ())) (hm : P.follows .mixedOrders = true) {N : Nat} {c : Code} {Q : Exit → SL → Store → Prop}
include hT hH hm
end
end Go.Proofs.Ytadnpgkddgbhkaa
namespace Go.Proofs.Ytadnpgkddgbhkaa
open Go.RowKit
set_option linter.all false
def Clo (ops : Array Oper) (listed : Array Bool) : Prop := ∀ j o, listed.getD j false = true → ops[j]? = some o → ∀ e ∈ o.after, Region.binds .any e = true → listed.getD e.on false = true
theorem Clo.set {ops : Array Oper} {listed : Array Bool} (h : Clo ops listed) {i : Nat} (hr : i ∈ Region.ready .any ops listed) : Clo ops (listed.setIfInBounds i true) := by
 intro j o hj ho e he hb
 by_cases hji : j = i
 ·subst hji
  obtain ⟨_, o', ho', hall⟩ := mem_ready.1 hr
  rw [ho] at ho'; cases ho'
  exact getD_set_true (hall e he hb)
 ·rw [getD_set_ne false (Ne.symm hji)] at hj
  exact getD_set_true (h j o hj ho e he hb)
end Go.Proofs.Ytadnpgkddgbhkaa
namespace Go.Proofs.Ytadnpgkddgbhkaa
open Go.RowKit
set_option linter.all false
mutual
theorem Rep.stv {E E' : Env} (hw : E'.w = E.w) (hS : E'.S = E.S) (hσ : E'.σ = E.σ) (h : ∀ (b : Nat) (bx : Box), E.st[b]? = some bx → ∃ bx' : Box, E'.st[b]? = some bx' ∧ bx'.ver = bx.ver) : ∀ (d : DV) (u : Value), Rep E d u → Rep E' d u
 | .any, _, _ => trivial
 | .d p, u, hr => by
    show RepP E'.w E'.S p u
    rw [hw, hS]
    exact hr
 | .agg cs, u, ⟨vs, h1, h2, h3⟩ => ⟨vs, h1, h2, Reps.stv hw hS hσ h cs vs h3⟩
 | .tup cs, u, ⟨vs, h1, h3⟩ => ⟨vs, h1, Reps.stv hw hS hσ h cs vs h3⟩
 | .ref b ver o, u, ⟨bx, gz, h1, h2, h3, h4, h5⟩ => by
    obtain ⟨bx', e1, e2⟩ := h b bx h1
    exact ⟨bx', gz, e1, by rw [hσ]; exact h2, h3, by rw [e2]; exact h4, fun e => h5 (by rw [e, e2])⟩
 | .cref cs, u, ⟨a, h1, h2, h3⟩ => ⟨a, h1, by rw [hS]; exact h2, by rw [hw, hS]; exact h3⟩
 | .view sz b ver o n, u, ⟨bx, gz, h1, h2, h3, h4, h5⟩ => by
    obtain ⟨bx', e1, e2⟩ := h b bx h1
    exact ⟨bx', gz, e1, by rw [hσ]; exact h2, h3, by rw [e2]; exact h4, fun e => h5 (by rw [e, e2])⟩
 | .fn f cs, u, ⟨vs, h1, h3⟩ => ⟨vs, h1, Reps.stv hw hS hσ h cs vs h3⟩
theorem Reps.stv {E E' : Env} (hw : E'.w = E.w) (hS : E'.S = E.S) (hσ : E'.σ = E.σ) (h : ∀ (b : Nat) (bx : Box), E.st[b]? = some bx → ∃ bx' : Box, E'.st[b]? = some bx' ∧ bx'.ver = bx.ver) : ∀ (ds : List DV) (us : List Value), Reps E ds us → Reps E' ds us
 | [], [], _ => trivial
 | [], _ :: _, h => h.elim
 | _ :: _, [], h => h.elim
 | d :: ds, u :: us, ⟨h1, h2⟩ => ⟨Rep.stv hw hS hσ h d u h1, Reps.stv hw hS hσ h ds us h2⟩
end
theorem UpL.len : ∀ {cs ds : List DV}, UpL cs ds → ds.length = cs.length
 | [], ds, h => by have e : ds = [] := h; subst e; rfl
 | c :: cs, ds, ⟨b, bs, e, h1, h2⟩ => by subst e; simp [UpL.len h2]
theorem UpL.get : ∀ {cs ds : List DV}, UpL cs ds → ∀ (j : Nat) (d : DV), ds[j]? = some d → ∃ c, cs[j]? = some c ∧ UpD c d
 | [], ds, h, j, d, hd => by have e : ds = [] := h; subst e; simp at hd
 | c :: cs, ds, ⟨b, bs, e, h1, h2⟩, j, d, hd => by
     subst e
     cases j with
     | zero => simp at hd; subst hd; exact ⟨c, rfl, h1⟩
     | succ j => exact UpL.get h2 j d (by simpa using hd)
def UpSt : Store → Store → Prop
 | [], st' => st' = []
 | bx :: st, st' => ∃ bx' st2, st' = bx' :: st2 ∧ (bx'.ty = bx.ty ∧ bx'.ext = bx.ext ∧ bx'.ver = bx.ver ∧ bx'.live = bx.live ∧ UpL bx.cells bx'.cells) ∧ UpSt st st2
theorem UpSt.len : ∀ {st st' : Store}, UpSt st st' → st'.length = st.length
 | [], st', h => by have e : st' = [] := h; subst e; rfl
 | bx :: st, st', ⟨_, _, e, _, h⟩ => by subst e; simp [UpSt.len h]
theorem UpSt.get : ∀ {st st' : Store}, UpSt st st' → ∀ (b : Nat) (bx : Box), st[b]? = some bx → ∃ bx' : Box, st'[b]? = some bx' ∧ bx'.ty = bx.ty ∧ bx'.ext = bx.ext ∧ bx'.ver = bx.ver ∧ bx'.live = bx.live ∧ UpL bx.cells bx'.cells
 | [], st', h, b, bx, hb => by simp at hb
 | b0 :: st, st', ⟨b1, st2, e, h1, h2⟩, b, bx, hb => by
    subst e
    cases b with
    | zero => simp at hb; subst hb; exact ⟨b1, rfl, h1⟩
    | succ b => exact UpSt.get h2 b bx (by simpa using hb)
theorem UpSt.back : ∀ {st st' : Store}, UpSt st st' → ∀ (b : Nat) (bx' : Box), st'[b]? = some bx' → ∃ bx : Box, st[b]? = some bx ∧ bx'.ty = bx.ty ∧ bx'.ext = bx.ext ∧ bx'.ver = bx.ver ∧ bx'.live = bx.live ∧ UpL bx.cells bx'.cells
 | [], st', h, b, bx, hb => by have e : st' = [] := h; subst e; simp at hb
 | b0 :: st, st', ⟨b1, st2, e, h1, h2⟩, b, bx, hb => by
    subst e
    cases b with
    | zero => simp at hb; subst hb; exact ⟨b0, rfl, h1⟩
    | succ b => exact UpSt.back h2 b bx (by simpa using hb)
theorem UpSt.cons {ty : TypeId} {cs ds : List DV} {e : Bool} {v : Nat} {l : Bool} {st st' : Store} (h : UpL cs ds) (hs : UpSt st st') : UpSt (⟨ty, cs, e, v, l⟩ :: st) (⟨ty, ds, e, v, l⟩ :: st') := ⟨_, _, rfl, ⟨rfl, rfl, rfl, rfl, h⟩, hs⟩
theorem told_upst {k : Nat} {s s' : SL} {st st' : Store} (h : UpSt st st') (hs : toldUP s s') : Told k s st s' st' := by
 intro E N a hc hst hok
 subst hst
 have hv : ∀ (b : Nat) (bx : Box), E.st[b]? = some bx → ∃ bx' : Box, st'[b]? = some bx' ∧ bx'.ver = bx.ver := fun b bx hb => by
  obtain ⟨bx', h1, _, _, h2, _⟩ := h.get b bx hb
  exact ⟨bx', h1, h2⟩
 let E' : Env := ⟨E.w, E.S, E.σ, st'⟩
 refine ⟨E', rfl, rfl, ⟨hc.len.trans h.len.symm, fun b bx' g z h1 h2 hl => ?_, hc.inj, hc.old, hc.lt⟩, ⟨hok.size, fun i => ?_, hok.defers⟩, fun F q1 q2 q3 => ?_⟩
 ·obtain ⟨bx, g1, g2, g3, g4, g5, g6⟩ := h.back b bx' h1
  obtain ⟨cur, c1, c2, c3, c4, c5, c6, c7, c8⟩ := hc.box b bx g z g1 h2 (by rw [← g5]; exact hl)
  refine ⟨cur, by rw [g2]; exact c1, c2, by rw [g6.len]; exact c3, fun e => by rw [g6.len]; exact c4 (by rw [← g3]; exact e), c5, c6, fun j d hj => ?_, c8⟩
  obtain ⟨c, k1, k2⟩ := g6.get j d hj
  obtain ⟨u, u1, u2, u3⟩ := c7 j c k1
  exact ⟨u, u1, u2, Rep.stv (E := E) (E' := E') rfl rfl rfl hv d u (UpD.rep k2 u3)⟩
 ·rcases toldUP_get hs i with h1 | h1
  ·exact Rep.stv (E := E) (E' := E') rfl rfl rfl hv _ _ (UpD.rep h1 (hok.rep i))
  ·rw [h1]; trivial
 ·refine ⟨q3.size, q3.os, q3.tape, q3.output, q3.set, q3.fresh, q3.heap, fun b bx gz b1 b2 => ?_, q3.new⟩
  obtain ⟨bx1, gz1, r1, r2, r3, r4, r5, r6⟩ := q3.box b bx gz b1 b2
  obtain ⟨bx2, s1, _, _, s2, s3, _⟩ := h.get b bx1 r1
  exact ⟨bx2, gz1, s1, r2, by rw [s2]; exact r3, fun e => r4 (by rw [e, s2]), fun e => by rw [s3]; exact r5 e, r6⟩
end Go.Proofs.Ytadnpgkddgbhkaa
