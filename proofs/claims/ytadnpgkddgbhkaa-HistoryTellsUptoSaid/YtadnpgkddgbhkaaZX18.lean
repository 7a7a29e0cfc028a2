/- The program logic, forty-first part: regions in any order whose orders are told apart: which one of two operations comes first. No condition: lemmas of any program. -/
import Derived.Test.YtadnpgkddgbhkaaZX17
import Derived.Test.YtadnpgkddgbhkaaZX15
namespace Go.Proofs.Ytadnpgkddgbhkaa
open Go.RowKit
set_option linter.all false
def Valid (ops : Array Oper) : Nat → Array Bool → List Nat → Prop
 | 0, _, o => o = []
 | f + 1, L, o => (o = [] ∧ Region.ready .any ops L = []) ∨ ∃ i rest, o = i :: rest ∧ i ∈ Region.ready .any ops L ∧ Valid ops f (L.setIfInBounds i true) rest
theorem valid_lin (ops : Array Oper) : ∀ (f t : Nat) (L : Array Bool), Valid ops f L (Region.linearise.go .any ops f t L [])
 | 0, t, L => rfl
 | f + 1, t, L => by
     simp only [Region.linearise.go]
     change Valid ops (f + 1) L (match (Region.ready .any ops L)[t % (Region.ready .any ops L).length]? with
      | some i => Region.linearise.go .any ops f (t / (Region.ready .any ops L).length) (L.setIfInBounds i true) [i]
      | none => [].reverse)
     cases hi : (Region.ready .any ops L)[t % (Region.ready .any ops L).length]? with
     | none =>
       refine .inl ⟨rfl, ?_⟩
       cases hr : Region.ready .any ops L with
       | nil => rfl
       | cons x xs =>
         rw [hr] at hi
         have hlt : t % (x :: xs).length < (x :: xs).length := Nat.mod_lt _ (by simp)
         simp at hi
         simp at hlt
         omega
     | some i =>
       simp only []
       rw [linearise_go_acc, List.reverse_singleton, List.singleton_append]
       exact .inr ⟨i, _, rfl, List.mem_of_getElem? hi, valid_lin ops f _ _⟩
theorem any_valid {P : Program} {ops : Array Oper} {Q : Exit → Act → World → Prop} : ∀ (f : Nat) (L : Array Bool) (o : List Nat) (a : Act) (w : World), wpAny P .any ops Q f L a w → Valid ops f L o → wpOps P ops Q o a w
 | 0, L, o, a, w, h, hv => by
    have e : o = [] := hv
    subst e
    simpa [wpOps] using h.2
 | f + 1, L, o, a, w, h, hv => by
     rcases hv with ⟨rfl, h0⟩ | ⟨i, rest, rfl, hi, hv⟩
     ·simpa [wpOps] using h.1 h0
     ·rw [wpOps_cons]
      exact wpOp_mono (fun a w h2 => any_valid f _ rest a w h2 hv) (h.2 i hi)
def renO (σ : Nat → Nat) (ex : List (Nat × Nat)) (i : Nat) (o : Oper) : Oper :=
 { o with after := ((o.after.toList.map fun e : Edge => (⟨σ e.on, e.ground⟩ : Edge)) ++ (ex.filter fun p : Nat × Nat => p.2 == i).map fun p : Nat × Nat => (⟨σ p.1, .data⟩ : Edge)).toArray, guard := match o.guard with
   | none => none
   | some (g, b) => some (σ g, b) }
def permL (π : List Nat) (ex : List (Nat × Nat)) (ops : Array Oper) : List Nat → List Oper
 | [] => []
 | i :: is => match ops[i]? with
   | some o => renO (fun j => π.idxOf j) ex i o :: permL π ex ops is
   | none => permL π ex ops is
def permE (π : List Nat) (ex : List (Nat × Nat)) (ops : Array Oper) : Array Oper := (permL π ex ops π).toArray
def permB (π : List Nat) (n : Nat) : Bool := π.length == n && (π.all fun i => decide (i < n)) && ((List.range n).all fun i => decide (π.idxOf i < n) && π[π.idxOf i]? == some i) && ((List.range n).all fun k => match π[k]? with
 | some i => π.idxOf i == k
 | none => false)
structure PermOK (π : List Nat) (n : Nat) : Prop where
 len : π.length = n
 lt : ∀ i ∈ π, i < n
 to : ∀ i, i < n → π.idxOf i < n ∧ π[π.idxOf i]? = some i
 back : ∀ k, k < n → ∃ i, π[k]? = some i ∧ i < n ∧ π.idxOf i = k
 out : ∀ i, n ≤ i → π.idxOf i = n
theorem permB_ok {π : List Nat} {n : Nat} (h : permB π n = true) : PermOK π n := by
 simp only [permB, Bool.and_eq_true, beq_iff_eq, List.all_eq_true, decide_eq_true_eq, List.mem_range] at h
 obtain ⟨⟨⟨h1, h2⟩, h3⟩, h4⟩ := h
 refine ⟨h1, h2, h3, fun k hk => ?_, fun i hi => ?_⟩
 ·have := h4 k hk
  cases hp : π[k]? with
  | none => rw [hp] at this; cases this
  | some i =>
    rw [hp] at this
    simp only [beq_iff_eq] at this
    exact ⟨i, rfl, h2 i (List.mem_of_getElem? hp), this⟩
 ·have hn : i ∉ π := fun hm => by have := h2 i hm; omega
  rw [← h1]
  exact List.idxOf_eq_length hn
theorem permL_get {π : List Nat} {ex : List (Nat × Nat)} {ops : Array Oper} : ∀ (is : List Nat), (∀ i ∈ is, i < ops.size) → ∀ k : Nat, (permL π ex ops is)[k]? = (is[k]?).bind fun i => (ops[i]?).map (renO (fun j => π.idxOf j) ex i)
 | [], _, k => by simp [permL]
 | i :: is, h, k => by
     have hi : i < ops.size := h i (by simp)
     have ih := permL_get (π := π) (ex := ex) (ops := ops) is (fun j hj => h j (by simp [hj]))
     have ho : ops[i]? = some ops[i] := Array.getElem?_eq_getElem hi
     unfold permL
     rw [ho]
     cases k with
     | zero => simp [ho]
     | succ k => simp [ih k]
section perm
variable {P : Program} {ops : Array Oper} {Q : Exit → Act → World → Prop} {π : List Nat} {ex : List (Nat × Nat)} (hp : PermOK π ops.size)
include hp
theorem perm_at {i : Nat} (hi : i < ops.size) : (permE π ex ops)[π.idxOf i]? = (ops[i]?).map (renO (fun j => π.idxOf j) ex i) := by
 have h1 := (hp.to i hi).2
 simp only [permE, List.getElem?_toArray]
 rw [permL_get π hp.lt, h1]
 rfl
theorem perm_size : (permE π ex ops).size = ops.size := by
 have h1 : ∀ k : Nat, (permE π ex ops)[k]? = (π[k]?).bind fun i => (ops[i]?).map (renO (fun j => π.idxOf j) ex i) := fun k => by
  have e := permL_get (π := π) (ex := ex) (ops := ops) π hp.lt k
  rw [← e]
  exact List.getElem?_toArray
 have h2 : ∀ k, k < ops.size → k < (permE π ex ops).size := fun k hk => by
  obtain ⟨i, e, hi, _⟩ := hp.back k hk
  have := h1 k
  rw [e, Option.bind_some, Array.getElem?_eq_getElem hi] at this
  exact (Array.getElem?_eq_some_iff.1 this).1
 have h3 : ∀ k, k < (permE π ex ops).size → k < ops.size := fun k hk => by
  rcases Nat.lt_or_ge k ops.size with h | h
  ·exact h
  ·have := h1 k
   rw [List.getElem?_eq_none (by rw [hp.len]; exact h), Option.bind_none, Array.getElem?_eq_getElem hk] at this
   cases this
 rcases Nat.lt_trichotomy (permE π ex ops).size ops.size with h | h | h
 ·have := h2 _ h; omega
 ·exact h
 ·have := h3 _ h; omega
theorem perm_yield (tmps : Array Value) (g : Nat) : yielded (permE π ex ops) tmps (π.idxOf g) = yielded ops tmps g := by
 unfold yielded
 rcases Nat.lt_or_ge g ops.size with h | h
 ·rw [perm_at hp h]
  cases ops[g]? <;> rfl
 ·rw [hp.out g h, Array.getElem?_eq_none h, Array.getElem?_eq_none (by rw [perm_size hp]; exact Nat.le_refl _)]
theorem perm_op {i : Nat} (hi : i < ops.size) (K : Act → World → Prop) (a : Act) (w : World) : wpOp P (permE π ex ops) Q (π.idxOf i) K a w = wpOp P ops Q i K a w := by
 unfold wpOp
 rw [perm_at hp hi]
 have ho : ops[i]? = some ops[i] := Array.getElem?_eq_getElem hi
 rw [ho]
 simp only [Option.map_some]
 generalize ops[i] = o
 obtain ⟨dst, op, ty, pos, after, guard⟩ := o
 have hw : Region.wanted (renO (fun j => π.idxOf j) ex i ⟨dst, op, ty, pos, after, guard⟩) (yielded (permE π ex ops) a.tmps) = Region.wanted ⟨dst, op, ty, pos, after, guard⟩ (yielded ops a.tmps) := by
  unfold Region.wanted renO
  cases guard with
  | none => rfl
  | some p =>
    obtain ⟨g, b⟩ := p
    simp only
    rw [perm_yield hp]
 rw [hw]
 rfl
theorem perm_ops : ∀ (o : List Nat), (∀ i ∈ o, i < ops.size) → ∀ (a : Act) (w : World), wpOps P (permE π ex ops) Q (o.map fun i => π.idxOf i) a w → wpOps P ops Q o a w
 | [], _, a, w, h => h
 | i :: o, hi, a, w, h => by
     rw [List.map_cons, wpOps_cons, perm_op hp (hi i (by simp))] at h
     rw [wpOps_cons]
     exact wpOp_mono (fun a w h2 => perm_ops o (fun j hj => hi j (by simp [hj])) a w h2) h
end perm
theorem valid_lt {ops : Array Oper} : ∀ (f : Nat) (L : Array Bool) (o : List Nat), Valid ops f L o → ∀ i ∈ o, i < ops.size
 | 0, L, o, h, i, hi => by have e : o = [] := h; subst e; cases hi
 | f + 1, L, o, h, i, hi => by
     rcases h with ⟨rfl, _⟩ | ⟨j, rest, rfl, hj, hv⟩
     ·cases hi
     ·rcases List.mem_cons.1 hi with rfl | hi
      ·obtain ⟨o, ho⟩ := ready_some hj
       exact (Array.getElem?_eq_some_iff.1 ho).1
      ·exact valid_lt f _ _ hv i hi
def Resp (ex : List (Nat × Nat)) : Array Bool → List Nat → Prop
 | _, [] => True
 | L, i :: rest => (∀ p ∈ ex, p.2 = i → L.getD p.1 false = true) ∧ Resp ex (L.setIfInBounds i true) rest
theorem resp_nil : ∀ (L : Array Bool) (o : List Nat), Resp [] L o
 | _, [] => trivial
 | L, i :: o => ⟨by simp, resp_nil _ o⟩
theorem resp_cons {p : Nat × Nat} {ex : List (Nat × Nat)} : ∀ {L : Array Bool} {o : List Nat}, Resp [p] L o → Resp ex L o → Resp (p :: ex) L o
 | _, [], _, _ => trivial
 | L, i :: o, h, g => ⟨fun q hq e => by
    rcases List.mem_cons.1 hq with rfl | hq
    ·exact h.1 _ (by simp) e
    ·exact g.1 q hq e, resp_cons h.2 g.2⟩
theorem resp_listed {x y : Nat} : ∀ {L : Array Bool} {o : List Nat}, L.getD x false = true → Resp [(x, y)] L o
 | _, [], _ => trivial
 | L, i :: o, h => ⟨fun p hp _ => by rw [List.mem_singleton] at hp; subst hp; exact h, resp_listed (getD_set h)⟩
theorem resp_split {ops : Array Oper} {x y : Nat} (hne : x ≠ y) : ∀ (f : Nat) (L : Array Bool) (o : List Nat), L.size = ops.size → Valid ops f L o → Resp [(x, y)] L o ∨ Resp [(y, x)] L o
 | 0, L, o, hs, h => by have e : o = [] := h; subst e; exact .inl trivial
 | f + 1, L, o, hs, h => by
     rcases h with ⟨rfl, _⟩ | ⟨i, rest, rfl, hi, hv⟩
     ·exact .inl trivial
     ·have hlt : i < L.size := by
       obtain ⟨o, ho⟩ := ready_some hi
       rw [hs]
       exact (Array.getElem?_eq_some_iff.1 ho).1
      have hset : (L.setIfInBounds i true).getD i false = true := by
       simp [Array.getD_eq_getD_getElem?, Array.getElem?_setIfInBounds, hlt]
      by_cases h1 : i = x
      ·subst h1
       refine .inl ⟨fun p hp e => ?_, resp_listed hset⟩
       rw [List.mem_singleton] at hp
       subst hp
       exact absurd e.symm hne
      ·by_cases h2 : i = y
       ·subst h2
        refine .inr ⟨fun p hp e => ?_, resp_listed hset⟩
        rw [List.mem_singleton] at hp
        subst hp
        exact absurd e hne
       ·rcases resp_split hne f _ rest (by simpa using hs) hv with h3 | h3
        ·refine .inl ⟨fun p hp e => ?_, h3⟩
         rw [List.mem_singleton] at hp
         subst hp
         exact absurd e.symm h2
        ·refine .inr ⟨fun p hp e => ?_, h3⟩
         rw [List.mem_singleton] at hp
         subst hp
         exact absurd e.symm h1
section perm2
variable {ops : Array Oper} {π : List Nat} {ex : List (Nat × Nat)} (hp : PermOK π ops.size)
def SameL (π : List Nat) (n : Nat) (L L' : Array Bool) : Prop := L.size = n ∧ L'.size = n ∧ ∀ i, i < n → L'.getD (π.idxOf i) true = L.getD i true
theorem getD_b {L : Array Bool} {i : Nat} (h : i < L.size) (b c : Bool) : L.getD i b = L.getD i c := by
 simp [Array.getD_eq_getD_getElem?, Array.getElem?_eq_getElem h]
theorem getD_out {L : Array Bool} {i : Nat} (h : L.size ≤ i) (b : Bool) : L.getD i b = b := by
 simp [Array.getD_eq_getD_getElem?, Array.getElem?_eq_none h]
include hp
theorem sameL_false {L L' : Array Bool} (h : SameL π ops.size L L') (i : Nat) : L'.getD (π.idxOf i) false = L.getD i false := by
 rcases Nat.lt_or_ge i ops.size with hi | hi
 ·rw [getD_b (by rw [h.2.1]; exact (hp.to i hi).1) false true, getD_b (by rw [h.1]; exact hi) false true]
  exact h.2.2 i hi
 ·rw [hp.out i hi, getD_out (by rw [h.2.1]; exact Nat.le_refl _), getD_out (by rw [h.1]; exact hi)]
theorem sameL_set {L L' : Array Bool} (h : SameL π ops.size L L') {i : Nat} (hi : i < ops.size) : SameL π ops.size (L.setIfInBounds i true) (L'.setIfInBounds (π.idxOf i) true) := by
 refine ⟨by simpa using h.1, by simpa using h.2.1, fun j hj => ?_⟩
 have h1 := h.2.2 j hj
 have hji : π.idxOf i = π.idxOf j ↔ i = j := by
  refine ⟨fun e => ?_, fun e => by rw [e]⟩
  have a1 := (hp.to i hi).2
  have a2 := (hp.to j hj).2
  rw [e, a2] at a1
  exact (Option.some.inj a1).symm
 simp only [Array.getD_eq_getD_getElem?, Array.getElem?_setIfInBounds] at h1 ⊢
 by_cases e : i = j
 ·subst e
  have a1 := (hp.to i hi).1
  simp [h.1, h.2.1, hi, a1]
 ·rw [if_neg (fun q => e (hji.1 q)), if_neg e]
  exact h1
theorem ready_perm {L L' : Array Bool} (h : SameL π ops.size L L') {i : Nat} (hi : i ∈ Region.ready .any ops L) (hr : ∀ p ∈ ex, p.2 = i → L.getD p.1 false = true) : π.idxOf i ∈ Region.ready .any (permE π ex ops) L' := by
 obtain ⟨h1, o, ho, h2⟩ := mem_ready.1 hi
 have hlt := (Array.getElem?_eq_some_iff.1 ho).1
 refine mem_ready.2 ⟨by rw [h.2.2 i hlt]; exact h1, _, by rw [perm_at hp hlt, ho]; rfl, fun e he hb => ?_⟩
 simp only [renO, List.mem_toArray, List.mem_append, List.mem_map, List.mem_filter, beq_iff_eq] at he
 rcases he with ⟨e', he', rfl⟩ | ⟨p, ⟨hp1, hp2⟩, rfl⟩
 ·simp only
  rw [sameL_false hp h]
  exact h2 e' (by simpa using he') hb
 ·simp only
  rw [sameL_false hp h]
  exact hr p hp1 hp2
theorem ready_back {L L' : Array Bool} (h : SameL π ops.size L L') {k : Nat} (hk : k ∈ Region.ready .any (permE π ex ops) L') : ∃ i, i ∈ Region.ready .any ops L := by
 obtain ⟨h1, o', ho', h2⟩ := mem_ready.1 hk
 have hlt := (Array.getElem?_eq_some_iff.1 ho').1
 rw [perm_size hp] at hlt
 obtain ⟨i, e, hi, hik⟩ := hp.back k hlt
 have ho : ops[i]? = some ops[i] := Array.getElem?_eq_getElem hi
 refine ⟨i, mem_ready.2 ⟨by rw [← h.2.2 i hi, hik]; exact h1, _, ho, fun e he hb => ?_⟩⟩
 have e1 := perm_at (ex := ex) hp hi
 rw [hik, ho', ho] at e1
 have e2 := Option.some.inj e1
 have := h2 ⟨π.idxOf e.on, e.ground⟩ (by
  rw [e2]
  simp only [renO, List.mem_toArray, List.mem_append, List.mem_map]
  exact .inl ⟨e, by simpa using he, rfl⟩) hb
 rw [← sameL_false hp h]
 exact this
theorem valid_perm : ∀ (f : Nat) (L L' : Array Bool) (o : List Nat), SameL π ops.size L L' → Valid ops f L o → Resp ex L o → Valid (permE π ex ops) f L' (o.map fun i => π.idxOf i)
 | 0, L, L', o, h, hv, hr => by have e : o = [] := hv; subst e; rfl
 | f + 1, L, L', o, h, hv, hr => by
     rcases hv with ⟨rfl, h0⟩ | ⟨i, rest, rfl, hi, hv⟩
     ·refine .inl ⟨rfl, ?_⟩
      cases hk : Region.ready .any (permE π ex ops) L' with
      | nil => rfl
      | cons k ks =>
        obtain ⟨i, hi⟩ := ready_back (ex := ex) hp h (k := k) (by rw [hk]; simp)
        rw [h0] at hi
        cases hi
     ·have hlt : i < ops.size := by
       obtain ⟨o, ho⟩ := ready_some hi
       exact (Array.getElem?_eq_some_iff.1 ho).1
      exact .inr ⟨_, _, rfl, ready_perm hp h hi hr.1, valid_perm f _ _ rest (sameL_set hp h hlt) hv hr.2⟩
end perm2
inductive SpT where
 | leaf (π lv : List Nat)
 | node (x y : Nat) (l r : SpT)
def SpT.holds (K : List Nat → List Nat → List (Nat × Nat) → Prop) : SpT → List (Nat × Nat) → Prop
 | .leaf π lv, ex => K π lv ex
 | .node x y l r, ex => x ≠ y ∧ l.holds K ((x, y) :: ex) ∧ r.holds K ((y, x) :: ex)
theorem spT_ok {P : Program} {ops : Array Oper} {Q : Exit → Act → World → Prop} {a : Act} {w : World} {K : List Nat → List Nat → List (Nat × Nat) → Prop}
  (hK : ∀ π lv ex, K π lv ex → PermOK π ops.size ∧ wpAny P .any (permE π ex ops) Q (permE π ex ops).size (Array.replicate (permE π ex ops).size false) a w) {o : List Nat} (hv : Valid ops ops.size (Array.replicate ops.size false) o) :
  ∀ (t : SpT) (ex : List (Nat × Nat)), Resp ex (Array.replicate ops.size false) o → t.holds K ex → wpOps P ops Q o a w
 | .leaf π lv, ex, hr, h => by
    obtain ⟨hp, h1⟩ := hK π lv ex h
    rw [perm_size hp] at h1
    refine perm_ops hp o (valid_lt _ _ _ hv) a w (any_valid _ _ _ a w h1 (valid_perm hp _ _ _ o ⟨by simp, by simp, fun i hi => ?_⟩ hv hr))
    have := (hp.to i hi).1
    simp [Array.getD_eq_getD_getElem?, hi, this]
 | .node x y l r, ex, hr, ⟨hne, hl, hr2⟩ => by
    rcases resp_split hne _ _ _ (by simp) hv with h1 | h1
    ·exact spT_ok hK hv l _ (resp_cons h1 hr) hl
    ·exact spT_ok hK hv r _ (resp_cons h1 hr) hr2
theorem regionS (ids : List FuncId) (t : SpT) {P : Program} {T : Unit → Tab} (hT : TabOk P (T ())) {H : Unit → Kn} (hH : SoundK P (H ())) {B : Unit → KnB} (hB : SoundB P (B ())) {R : Unit → KnR} (hR : SoundR P (R ())) (hm : P.follows .mixedOrders = true) {N : Nat} {Q : Exit → SL → Store → Prop} {s : SL} {st : Store} {id : Nat} {ops : Array Oper} {A : Ar} {X : Cps} (hA : A = A0) (hX : X = X0 P N)
  (h : t.holds (fun π lv ex => permB π ops.size = true ∧ Region.lexB .any (permE π ex ops) = true ∧ turnsC ids (permE π ex ops) = true ∧ levelsB ids lv (permE π ex ops) = true ∧ mixL ids lv T A H B R N (permE π ex ops) (Q .normal) 0 (permE π ex ops).toList s st [] []) []) : X.st (.region id ops true) Q s st := by
 subst hA; subst hX
 show wpD P N (.region id ops true) (lessQ Q) (getS s) st
 intro E a hc hst hs
 subst hst
 obtain ⟨c1, c2⟩ := newNone hc { E.w with drawn := E.w.drawn + 1 } (Nat.le_refl _) (fun _ _ => rfl) rfl rfl rfl
 refine wp_region_draw fun k => ?_
 simp only [Region.schedule, hm, Bool.true_or, if_true]
 refine spT_ok (fun π lv ex hk => ?_) (valid_lin ops ops.size k (Array.replicate ops.size false)) t [] (resp_nil _ _) h
 obtain ⟨k1, k2, k3, k4, k5⟩ := hk
 refine ⟨permB_ok k1, ?_⟩
 generalize permE π ex ops = v at k2 k3 k4 k5 ⊢
 obtain ⟨l⟩ := v
 obtain ⟨later, h1, _⟩ := mixL_ok hT hH hB hR l 0 s E.st [] [] k5
 have h2 : anyD P N l.toArray (fun s' st' => ∃ l, getS l = s' ∧ Q .normal l st') l.length (Array.replicate l.length false) (getS s) E.st := by
  have hB : Region.lexFrom .any l.toArray l.toArray.size 0 (Array.replicate l.toArray.size false) = true := by
   simp only [Region.lexB, Bool.and_eq_true] at k2
   exact k2.2
  have h3 := anyD_of_L (ids := ids) (lv := lv) (P := P) (N := N) (ops := l.toArray) (sts := rowSt [] E.st later) (m := 0 + later.length) (Q := fun s' st' => ∃ l, getS l = s' ∧ Q .normal l st') l.length (Array.replicate l.length false) (getS s) 0 (Nat.zero_le _)
   (anyL_lex k3 k4 l 0 (Array.replicate l.length false) (getS s) 0 (by simp) (by simpa using hB) ⟨fun p hp => by rw [Array.getD_eq_getD_getElem?, Array.getElem?_replicate] at hp; split at hp <;> simp at hp, fun p o _ hp => by rw [Array.getD_eq_getD_getElem?, Array.getElem?_replicate] at hp; split at hp <;> simp at hp⟩ (by simpa using h1))
  have e0 : rowSt [] E.st later 0 = E.st := rowSt_at [] E.st later
  rw [e0] at h3
  simpa using h3
 have := any_ok (P := P) (Q := fun e a' w' => ∃ (s' : Slots) (E' : Env), E'.w = w' ∧ lessQ Q e s' E'.st ∧ Conc E' ∧ Ext E E' ∧ SlotsOk E' N s' a') l.length (Array.replicate l.length false) (getS s) ⟨{ E.w with drawn := E.w.drawn + 1 }, E.S, E.σ, E.st⟩ a c1 (hs.ext hc c2) h2
  fun s' a' E' hk h1 h2 h3 => by
   obtain ⟨l, rfl, hq⟩ := hk
   exact ⟨getS l, E', rfl, ⟨l, fun _ => .inl rfl, hq⟩, h1, Ext.trans hc.len c1.len c2 h2, h3⟩
 simpa using this
end Go.Proofs.Ytadnpgkddgbhkaa
namespace Go.Proofs.Ytadnpgkddgbhkaa
open Go.RowKit
set_option linter.all false
mutual
def bumpD (b v w : Nat) : DV → DV
 | .any => .any
 | .d p => .d p
 | .agg cs => .agg (bumpL b v w cs)
 | .tup cs => .tup (bumpL b v w cs)
 | .ref b' ver o => if b' = b ∧ ver = v then .ref b w o else .ref b' ver o
 | .cref cs => .cref cs
 | .view sz b' ver o n => if b' = b ∧ ver = v then .view sz b w o n else .view sz b' ver o n
 | .fn f cs => .fn f (bumpL b v w cs)
def bumpL (b v w : Nat) : List DV → List DV
 | [] => []
 | d :: ds => bumpD b v w d :: bumpL b v w ds
end
theorem ret_turn {k : Nat} {R : DV → Store → Prop} {d : DV} {st st' : Store} {f : DV → DV} (ht : Turn k st st' fun d d' => d' = f d) (h : RetW k R (f d) st') : RetW k R d st := by
 obtain ⟨d', st2, h1, h2⟩ := h
 exact ⟨d', st2, TellsV.trans (TellsV.turn ht rfl) h1, h2⟩
theorem ret_freeze {k : Nat} {R : DV → Store → Prop} {d : DV} {st : Store} (b sz : Nat) (xs : List (List PD)) (bx : Box) (hb : st[b]? = some bx) (hl : bx.live = true) (hkb : k ≤ b) (hcells : bx.cells = rowsD xs) (hsz : ∀ x ∈ xs, x.length = sz) (h : RetW k R (fzD b bx.ver sz xs d) (fzSt b sz xs st)) : RetW k R d st := ret_turn (Turn.freeze b sz xs bx hb hl hkb hcells hsz) h
end Go.Proofs.Ytadnpgkddgbhkaa
namespace Go.Proofs.Ytadnpgkddgbhkaa
open Go.RowKit
set_option linter.all false
end Go.Proofs.Ytadnpgkddgbhkaa
namespace Go.Proofs.Ytadnpgkddgbhkaa
open Go.RowKit
set_option linter.all false
end Go.Proofs.Ytadnpgkddgbhkaa
namespace Go.Proofs.Ytadnpgkddgbhkaa
open Go.RowKit
set_option linter.all false
def upF (up : List Nat) (p : Nat) : Nat := up.getD p 50
def tixF (ids : List FuncId) (ops : Array Oper) : Nat → Nat
 | 0 => 0
 | p + 1 => tixF ids ops p + if tnAt ids ops p = true then 1 else 0
def ancB (ops : Array Oper) : Nat → Nat → Nat → Bool
 | 0, _, _ => false
 | f + 1, p, t => match ops[t]? with
   | some o => o.after.any fun e => Region.binds .any e && (e.on == p || ancB ops f p e.on)
   | none => false
def upsB (ids : List FuncId) (up : List Nat) (ops : Array Oper) : Bool := (List.range ops.size).all fun p => decide (50 ≤ upF up p) || tnAt ids ops p || (List.range ops.size).all fun t => !tnAt ids ops t || decide (tixF ids ops t < upF up p) || ancB ops ops.size p t
def fewB (ids : List FuncId) (ops : Array Oper) : Bool := decide (tixF ids ops ops.size ≤ 50)
theorem tix_mono {ids : List FuncId} {ops : Array Oper} {a b : Nat} (h : a ≤ b) : tixF ids ops a ≤ tixF ids ops b := by
 induction b with
 | zero => rw [Nat.le_zero.1 h]; exact Nat.le_refl _
 | succ b ih =>
   rcases Nat.lt_or_ge a (b + 1) with q | q
   ·exact Nat.le_trans (ih (by omega)) (Nat.le_add_right _ _)
   ·rw [Nat.le_antisymm h q]; exact Nat.le_refl _
theorem tix_lt {ids : List FuncId} {ops : Array Oper} {a b : Nat} (ha : tnAt ids ops a = true) (h : a < b) : tixF ids ops a < tixF ids ops b := by
 have h1 : tixF ids ops (a + 1) ≤ tixF ids ops b := tix_mono h
 have h2 : tixF ids ops (a + 1) = tixF ids ops a + 1 := by simp [tixF, ha]
 omega
theorem tix_inj {ids : List FuncId} {ops : Array Oper} {a b : Nat} (ha : tnAt ids ops a = true) (hb : tnAt ids ops b = true) (h : tixF ids ops a = tixF ids ops b) : a = b := by
 rcases Nat.lt_trichotomy a b with q | q | q
 ·have := tix_lt ha q; omega
 ·exact q
 ·have := tix_lt hb q; omega
theorem tix_prev {ids : List FuncId} {ops : Array Oper} : ∀ {b : Nat}, 0 < tixF ids ops b → ∃ a, a < b ∧ tnAt ids ops a = true ∧ tixF ids ops a + 1 = tixF ids ops b
 | 0, h => by simp [tixF] at h
 | b + 1, h => by
     by_cases q : tnAt ids ops b = true
     ·exact ⟨b, by omega, q, by simp [tixF, q]⟩
     ·have e : tixF ids ops (b + 1) = tixF ids ops b := by simp [tixF, q]
      rw [e] at h ⊢
      obtain ⟨a, h1, h2, h3⟩ := tix_prev (b := b) h
      exact ⟨a, by omega, h2, h3⟩
theorem anc_listed {ops : Array Oper} {listed : Array Bool} (hC : Closed ops listed) {p : Nat} : ∀ (f t : Nat) (o : Oper), ops[t]? = some o → (∀ e ∈ o.after, Region.binds .any e = true → listed.getD e.on false = true) → ancB ops f p t = true → listed.getD p false = true
 | 0, _, _, _, _, h => by simp [ancB] at h
 | f + 1, t, o, ho, hall, h => by
     simp only [ancB, ho, Array.any_eq_true, Bool.and_eq_true, Bool.or_eq_true, beq_iff_eq] at h
     obtain ⟨i, hi, hb, h | h⟩ := h
     ·have := hall _ (Array.getElem_mem hi) hb
      rw [h] at this
      exact this
     ·have hl := hall _ (Array.getElem_mem hi) hb
      cases hq : ops[(o.after[i]'hi).on]? with
      | none =>
        cases f with
        | zero => simp [ancB] at h
        | succ f => simp [ancB, hq] at h
      | some o2 => exact anc_listed hC f _ o2 hq (hC _ o2 hq hl) h
structure Cnt (ids : List FuncId) (ops : Array Oper) (listed : Array Bool) (k : Nat) : Prop where
 size : listed.size = ops.size
 low : ∀ p, tnAt ids ops p = true → tixF ids ops p < k → listed.getD p false = true
 high : ∀ p, tnAt ids ops p = true → listed.getD p false = true → tixF ids ops p < k
theorem tnAt_some {ids : List FuncId} {ops : Array Oper} {p : Nat} {o : Oper} (h : ops[p]? = some o) : tnAt ids ops p = tnI ids o.op := by simp only [tnAt, h]
theorem unl2 {listed : Array Bool} {q : Nat} (h0 : listed.getD q true = false) (h1 : listed.getD q false = true) : False := by
 rcases Nat.lt_or_ge q listed.size with h' | h'
 ·simp [h'] at h0 h1; rw [h0] at h1; cases h1
 ·simp [Array.getElem?_eq_none h'] at h1
theorem Cnt.at {ids : List FuncId} {ops : Array Oper} {listed : Array Bool} {k j : Nat} {b : Oper} (h : Cnt ids ops listed k) (hT : turnsC ids ops = true) (hC : Closed ops listed) (hj : ops[j]? = some b) (hb : tnI ids b.op = true) (hr : j ∈ Region.ready .any ops listed) : tixF ids ops j = k := by
 obtain ⟨h1, o, ho, hall⟩ := mem_ready.1 hr
 rw [hj] at ho; cases ho
 have hbj : tnAt ids ops j = true := by rw [tnAt_some hj]; exact hb
 have a1 : k ≤ tixF ids ops j := by
  rcases Nat.lt_or_ge (tixF ids ops j) k with q | q
  ·exact (unl2 h1 (h.low j hbj q)).elim
  ·exact q
 rcases Nat.eq_or_lt_of_le a1 with q | q
 ·exact q.symm
 ·obtain ⟨a, b1, b2, b3⟩ := tix_prev (b := j) (ids := ids) (ops := ops) (by omega)
  cases ha : ops[a]? with
  | none => simp [tnAt, ha] at b2
  | some oa =>
    have := turnsC_listed hT hC j j a oa b (Nat.le_refl _) hj hb hall b1 ha (by rw [← tnAt_some ha]; exact b2)
    have := h.high a b2 this
    omega
theorem Cnt.next {ids : List FuncId} {ops : Array Oper} {listed : Array Bool} {k j : Nat} {b : Oper} (h : Cnt ids ops listed k) (hT : turnsC ids ops = true) (hC : Closed ops listed) (hj : ops[j]? = some b) (hr : j ∈ Region.ready .any ops listed) : Cnt ids ops (listed.setIfInBounds j true) (k + if tnI ids b.op = true then 1 else 0) := by
 have hlt : j < listed.size := by rw [h.size]; exact (Array.getElem?_eq_some_iff.1 hj).1
 have hset : (listed.setIfInBounds j true).getD j false = true := by
  simp [Array.getD_eq_getD_getElem?, Array.getElem?_setIfInBounds, hlt]
 have hoth : ∀ p, p ≠ j → (listed.setIfInBounds j true).getD p false = listed.getD p false := fun p hp => by
  simp only [Array.getD_eq_getD_getElem?, Array.getElem?_setIfInBounds, if_neg (Ne.symm hp)]
 by_cases hb : tnI ids b.op = true
 ·have hk := h.at hT hC hj hb hr
  have hbj : tnAt ids ops j = true := by rw [tnAt_some hj]; exact hb
  rw [if_pos hb]
  refine ⟨by simpa using h.size, fun p hp hq => ?_, fun p hp hq => ?_⟩
  ·by_cases e : p = j
   ·subst e; exact hset
   ·rw [hoth p e]
    refine h.low p hp ?_
    rcases Nat.lt_or_ge (tixF ids ops p) k with q | q
    ·exact q
    ·exact absurd (tix_inj hp hbj (by omega)) e
  ·by_cases e : p = j
   ·subst e; omega
   ·rw [hoth p e] at hq
    have := h.high p hp hq
    omega
 ·rw [if_neg hb]
  have hbj : tnAt ids ops j ≠ true := by rw [tnAt_some hj]; exact hb
  refine ⟨by simpa using h.size, fun p hp hq => ?_, fun p hp hq => ?_⟩
  ·rw [hoth p (fun e => hbj (e ▸ hp))]; exact h.low p hp hq
  ·rw [hoth p (fun e => hbj (e ▸ hp))] at hq; exact h.high p hp hq
theorem Cnt.up {ids : List FuncId} {up : List Nat} {ops : Array Oper} {listed : Array Bool} {k i j : Nat} {a b : Oper} (hU : upsB ids up ops = true) (hF : fewB ids ops = true) (h : Cnt ids ops listed k) (hT : turnsC ids ops = true) (hC : Closed ops listed) (hi : ops[i]? = some a) (ha : ¬ tnI ids a.op = true) (hiun : listed.getD i true = false) (hj : ops[j]? = some b) (hb : tnI ids b.op = true) (hr : j ∈ Region.ready .any ops listed) : k + 1 ≤ upF up i := by
 have hk := h.at hT hC hj hb hr
 have hbj : tnAt ids ops j = true := by rw [tnAt_some hj]; exact hb
 have hjs := (Array.getElem?_eq_some_iff.1 hj).1
 unfold upsB at hU
 rw [List.all_eq_true] at hU
 have h1 := hU i (by simpa using (Array.getElem?_eq_some_iff.1 hi).1)
 simp only [Bool.or_eq_true, decide_eq_true_eq, List.all_eq_true, List.mem_range, Bool.not_eq_true'] at h1
 rcases h1 with (h1 | h1) | h1
 ·have := tix_lt hbj hjs
  unfold fewB at hF
  have := of_decide_eq_true hF
  omega
 ·rw [tnAt_some hi] at h1; exact absurd h1 ha
 ·rcases h1 j hjs with (h2 | h2) | h2
  ·rw [hbj] at h2; cases h2
  ·omega
  ·obtain ⟨_, o, ho, hall⟩ := mem_ready.1 hr
   exact (unl2 hiun (anc_listed hC _ j o ho hall h2)).elim
def StepU (ids : List FuncId) (lv up : List Nat) (i : Nat) (P : Program) (ops : Array Oper) (sts : Nat → Store) (m : Nat) (o : Oper) (s : Slots) (k : Nat) (d : DV) (k' : Nat) : Prop :=
 if tnI ids o.op = true then Stp P ops o s (sts k) d (sts k') ∧ k' = k + 1 ∧ k < m else (∀ q, lvF lv i ≤ q → q ≤ upF up i → q ≤ m → Stp P ops o s (sts q) d (sts q)) ∧ k' = k ∧ lvF lv i ≤ k ∧ k ≤ upF up i
theorem StepU.put {ids : List FuncId} {lv up : List Nat} {i : Nat} {P : Program} {ops : Array Oper} {sts : Nat → Store} {m : Nat} {o : Oper} {s : Slots} {k k' : Nat} {d e : DV} {dst : Option Nat} (hap : ∀ t, dst = some t → t ∉ o.looksAt ops) : StepU ids lv up i P ops sts m o (putS dst e s) k d k' ↔ StepU ids lv up i P ops sts m o s k d k' := by
 unfold StepU
 simp only [Stp.put hap]
def anyU (ids : List FuncId) (lv up : List Nat) (P : Program) (N : Nat) (ops : Array Oper) (sts : Nat → Store) (m : Nat) (Q : Slots → Prop) : Nat → Array Bool → Slots → Nat → Prop
 | 0, listed, s, k => Region.ready .any ops listed = [] ∧ k = m ∧ Q s
 | fuel + 1, listed, s, k => (Region.ready .any ops listed = [] → k = m ∧ Q s) ∧
    ∀ i ∈ Region.ready .any ops listed, ∀ o, ops[i]? = some o → ∃ d k', StepU ids lv up i P ops sts m o s k d k' ∧ dstOk N o.dst ∧ anyU ids lv up P N ops sts m Q fuel (listed.setIfInBounds i true) (putS o.dst d s) k'
theorem anyD_of_U {ids : List FuncId} {lv up : List Nat} {P : Program} {N : Nat} {ops : Array Oper} {sts : Nat → Store} {m : Nat} {Q : Slots → Store → Prop} : ∀ (fuel : Nat) (listed : Array Bool) (s : Slots) (k : Nat), k ≤ m → anyU ids lv up P N ops sts m (fun s => Q s (sts m)) fuel listed s k → anyD P N ops Q fuel listed s (sts k)
 | 0, _, _, k, _, ⟨h1, h2, h3⟩ => ⟨h1, by subst h2; exact h3⟩
 | fuel + 1, listed, s, k, hm, h => by
    refine ⟨fun h0 => by obtain ⟨h2, h3⟩ := h.1 h0; subst h2; exact h3, fun i hi => ?_⟩
    obtain ⟨o, ho⟩ := ready_some hi
    obtain ⟨d, k', hs, hd, hK⟩ := h.2 i hi o ho
    rw [ho]
    have key : k' ≤ m ∧ Stp P ops o s (sts k) d (sts k') := by
     unfold StepU at hs
     split at hs
     ·exact ⟨by omega, hs.1⟩
     ·obtain ⟨h1, rfl, hle, hup⟩ := hs
      exact ⟨hm, h1 _ hle hup hm⟩
    have ih := anyD_of_U fuel _ _ k' key.1 hK
    rcases key.2 with ⟨hw, hy⟩ | ⟨hw, rfl, hst⟩
    ·simp only [stepD, hw]
     exact ⟨hd, hy _ ih⟩
    ·simp only [stepD, hw]
     rw [hst] at ih
     exact ⟨hd, ih⟩
theorem anyU_first {ids : List FuncId} {lv up : List Nat} {P : Program} {N : Nat} {ops : Array Oper} {sts : Nat → Store} {m : Nat} {Q : Slots → Prop} (hT : turnsC ids ops = true) (hLv : levelsB ids lv ops = true) (hU : upsB ids up ops = true) (hF : fewB ids ops = true) {i : Nat} {oi : Oper} {d : DV} (hi : ops[i]? = some oi) : ∀ (fuel : Nat) (listed : Array Bool) (s : Slots) (k k' : Nat),
  (∀ j oj, ops[j]? = some oj → j ≠ i → listed.getD j true = false → (∀ e ∈ oj.after, Region.binds .any e = true → e.on ≠ i) → oi.apart ops oj = true) → Below ids lv ops listed k → Cnt ids ops listed k →
  i ∈ Region.ready .any ops listed → StepU ids lv up i P ops sts m oi s k d k' → dstOk N oi.dst → anyU ids lv up P N ops sts m Q fuel (listed.setIfInBounds i true) (putS oi.dst d s) k' → anyU ids lv up P N ops sts m Q (fuel + 1) listed s k := by
 intro fuel
 induction fuel with
 | zero =>
   intro listed s k k' _ hJ hJc hr hy hd H
   refine ⟨fun h => (by rw [h] at hr; cases hr), fun j hj oj hoj => ?_⟩
   by_cases hji : j = i
   ·subst hji
    rw [hi] at hoj; cases hoj
    exact ⟨d, k', hy, hd, H⟩
   ·have := ready_mono hj hji
    rw [H.1] at this
    cases this
 | succ fuel ih =>
   intro listed s k k' hfree hJ hJc hr hy hd H
   refine ⟨fun h => (by rw [h] at hr; cases hr), fun j hj oj hoj => ?_⟩
   by_cases hji : j = i
   ·subst hji
    rw [hi] at hoj; cases hoj
    exact ⟨d, k', hy, hd, H⟩
   ·obtain ⟨dj, kj, hyj, hdj, hK⟩ := H.2 j (ready_mono hj hji) oj hoj
    obtain ⟨hjun, oj', hoj', hall⟩ := mem_ready.1 hj
    rw [hoj] at hoj'; cases hoj'
    obtain ⟨hiun, oi', hoi', halli⟩ := mem_ready.1 hr
    rw [hi] at hoi'; cases hoi'
    have unl : ∀ q, listed.getD q true = false → listed.getD q false = true → False := fun q h0 h1 => by
     rcases Nat.lt_or_ge q listed.size with h' | h'
     ·simp [h'] at h0 h1; rw [h0] at h1; cases h1
     ·simp [Array.getElem?_eq_none h'] at h1
    have hnot : ∀ e ∈ oj.after, Region.binds .any e = true → e.on ≠ i := fun e he hb heq => by
     have h1 := hall e he hb
     rw [heq] at h1
     exact unl i hiun h1
    have hnoti : ∀ e ∈ oi.after, Region.binds .any e = true → e.on ≠ j := fun e he hb heq => by
     have h1 := halli e he hb
     rw [heq] at h1
     exact unl j hjun h1
    have hboth : tnI ids oi.op = true → tnI ids oj.op = true → False := fun h1 h2 => by
     rcases Nat.lt_or_gt_of_ne hji with h | h
     ·exact unl j hjun (turnsC_listed hT hJ.2 i i j oj oi (Nat.le_refl _) hi h1 halli h hoj h2)
     ·exact unl i hiun (turnsC_listed hT hJ.2 j j i oi oj (Nat.le_refl _) hoj h2 hall h hi h1)
    obtain ⟨a1, a2, a3⟩ := Oper.apart_spec (hfree j oj hoj hji hjun hnot)
    have hfree' : ∀ k ok, ops[k]? = some ok → k ≠ i → (listed.setIfInBounds j true).getD k true = false →
      (∀ e ∈ ok.after, Region.binds .any e = true → e.on ≠ i) → oi.apart ops ok = true := fun k ok hk hki hun hno => by
     refine hfree k ok hk hki ?_ hno
     by_cases hjk : j = k
     ·subst hjk; exact hjun
     ·rw [getD_set_ne true hjk] at hun; exact hun
    have hyj' := (StepU.put a1).1 hyj
    have hlj := hJ.ready hLv hj
    have swap : ∃ k1, StepU ids lv up j P ops sts m oj s k dj k1 ∧ StepU ids lv up i P ops sts m oi s k1 d kj ∧ k ≤ k1 ∧ outF ids lv ops j ≤ k1 ∧ k1 = k + if tnI ids oj.op = true then 1 else 0 := by
     have hout : outF ids lv ops j = lvF lv j + if tnI ids oj.op = true then 1 else 0 := by simp only [outF, tnAt, hoj]
     rw [hout]
     unfold StepU at hy hyj' ⊢
     by_cases h1 : tnI ids oi.op = true
     ·by_cases h2 : tnI ids oj.op = true
      ·exact (hboth h1 h2).elim
      ·rw [if_pos h1] at hy
       rw [if_neg h2] at hyj'
       obtain ⟨q1, rfl, q2, q3⟩ := hyj'
       refine ⟨k, ?_, ?_, Nat.le_refl _, ?_, ?_⟩
       ·rw [if_neg h2]; exact ⟨q1, rfl, hlj, by have := hy.2.1; omega⟩
       ·rw [if_pos h1]; exact hy
       ·rw [if_neg h2]; exact hlj
       ·rw [if_neg h2]; rfl
     ·rw [if_neg h1] at hy
      obtain ⟨q1, rfl, q2, q3⟩ := hy
      by_cases h2 : tnI ids oj.op = true
      ·rw [if_pos h2] at hyj'
       have hup := Cnt.up hU hF hJc hT hJ.2 hi h1 hiun hoj h2 hj
       have e := hyj'.2.1
       refine ⟨kj, ?_, ?_, by omega, ?_, ?_⟩
       ·rw [if_pos h2]; exact hyj'
       ·rw [if_neg h1]; exact ⟨q1, rfl, by omega, by omega⟩
       ·rw [if_pos h2]; omega
       ·rw [if_pos h2]; exact e
      ·rw [if_neg h2] at hyj'
       have e := hyj'.2.1
       refine ⟨kj, ?_, ?_, by omega, ?_, ?_⟩
       ·rw [if_neg h2]; exact hyj'
       ·rw [if_neg h1]; exact ⟨q1, rfl, by omega, by omega⟩
       ·rw [if_neg h2]; omega
       ·rw [if_neg h2]; exact e
    obtain ⟨k1, w1, w2, w3, w4, w5⟩ := swap
    refine ⟨dj, k1, w1, hdj, ih (listed.setIfInBounds j true) _ k1 kj hfree' (hJ.next hj w3 w4) (by rw [w5]; exact hJc.next hT hJ.2 hoj hj) (ready_mono hr (Ne.symm hji)) ((StepU.put a3).2 w2) hd ?_⟩
    rw [Array.setIfInBounds_comm _ _ hji, ← putS_comm a2]
    exact hK
def lexU (ids : List FuncId) (lv up : List Nat) (P : Program) (N : Nat) (ops : Array Oper) (sts : Nat → Store) (m : Nat) (Q : Slots → Prop) : Nat → List Oper → Slots → Nat → Prop
 | _, [], s, k => k = m ∧ Q s
 | p, o :: rest, s, k => ∃ d k', StepU ids lv up p P ops sts m o s k d k' ∧ dstOk N o.dst ∧ lexU ids lv up P N ops sts m Q (p + 1) rest (putS o.dst d s) k'
theorem anyU_lex {ids : List FuncId} {lv up : List Nat} {P : Program} {N : Nat} {ops : Array Oper} {sts : Nat → Store} {m : Nat} {Q : Slots → Prop} (hT : turnsC ids ops = true) (hLv : levelsB ids lv ops = true) (hU : upsB ids up ops = true) (hF : fewB ids ops = true) : ∀ (l : List Oper) (k : Nat) (listed : Array Bool) (s : Slots) (n : Nat), (∀ j, l[j]? = ops[k + j]?) →
  Region.lexFrom .any ops l.length k listed = true → Below ids lv ops listed n → Cnt ids ops listed n → lexU ids lv up P N ops sts m Q k l s n → anyU ids lv up P N ops sts m Q l.length listed s n
 | [], _, _, _, _, _, hB, _, _, h => ⟨by simpa [Region.lexFrom] using hB, h⟩
 | o :: l, k, listed, s, n, hl, hB, hJ, hJc, h => by
   have h0 : ops[k]? = some o := by simpa using (hl 0).symm
   simp only [List.length_cons, Region.lexFrom, Bool.and_eq_true] at hB
   obtain ⟨⟨hr, hf⟩, hB'⟩ := hB
   obtain ⟨d, k', hy, hd, hK⟩ := h
   have hr' : k ∈ Region.ready .any ops listed := by simpa using hr
   have hlk := hJ.ready hLv hr'
   have hout : outF ids lv ops k = lvF lv k + if tnI ids o.op = true then 1 else 0 := by simp only [outF, tnAt, h0]
   have hkk : n ≤ k' ∧ outF ids lv ops k ≤ k' ∧ k' = n + if tnI ids o.op = true then 1 else 0 := by
    rw [hout]
    unfold StepU at hy
    split at hy
    ·rename_i h2; rw [if_pos h2]; omega
    ·rename_i h2; rw [if_neg h2]; omega
   have hJc' : Cnt ids ops (listed.setIfInBounds k true) k' := by rw [hkk.2.2]; exact hJc.next hT hJ.2 h0 hr'
   exact anyU_first hT hLv hU hF h0 l.length listed s n k' (Region.free_spec h0 hf) hJ hJc hr' hy hd
    (anyU_lex hT hLv hU hF l (k + 1) _ _ k' (fun j => by have := hl (j + 1); simpa [Nat.add_assoc, Nat.add_comm 1 j] using this) hB' (hJ.next hr' hkk.1 hkk.2.1) hJc' hK)
theorem wpD_U {ids : List FuncId} {lv up : List Nat} {P : Program} {N : Nat} {Q : Exit → Slots → Store → Prop} {s : Slots} {id : Nat} {l : List Oper} (sts : Nat → Store) (m : Nat) (hm : P.follows .mixedOrders = true) (hB : Region.lexB .any l.toArray = true) (hT : turnsC ids l.toArray = true) (hLv : levelsB ids lv l.toArray = true) (hU : upsB ids up l.toArray = true) (hF : fewB ids l.toArray = true)
  (h : lexU ids lv up P N l.toArray sts m (fun s' => Q .normal s' (sts m)) 0 l s 0) : wpD P N (.region id l.toArray true) Q s (sts 0) := by
 refine wpD_any hm (anyD_of_U (ids := ids) (lv := lv) (up := up) (sts := sts) (m := m) _ _ _ 0 (Nat.zero_le m) ?_)
 simp only [Region.lexB, Bool.and_eq_true] at hB
 exact anyU_lex hT hLv hU hF l 0 (Array.replicate l.length false) s 0 (by simp) (by simpa using hB.2) ⟨fun p hp => by rw [Array.getD_eq_getD_getElem?, Array.getElem?_replicate] at hp; split at hp <;> simp at hp, fun p o _ hp => by rw [Array.getD_eq_getD_getElem?, Array.getElem?_replicate] at hp; split at hp <;> simp at hp⟩ ⟨by simp, fun p _ hp => by omega, fun p _ hp => by rw [Array.getD_eq_getD_getElem?, Array.getElem?_replicate] at hp; split at hp <;> simp at hp⟩ h
def mixOneU (ids : List FuncId) (v u : Nat) (T : Unit → Tab) (A : Ar) (H : Unit → Kn) (B : Unit → KnB) (R : Unit → KnR) (o : Op) (s : SL) (st : Store) (olds : List Store) (done : DL) (X : DV → Store → List Store → DL → Prop) : Prop :=
 match tnI ids o with
 | true => (match tvV T A B o s st with
   | some (cs, d, st1) => allP cs (staysL T A H R st1 done (X d st1 (st :: olds) done))
   | none => False)
 | false => (match pvL T A H R o s st, decide (v ≤ olds.length) && decide (olds.length ≤ u) with
   | some (cs, d), true => allP cs (stoodL T A H R o s d (olds.take (olds.length - v)) (X d st olds (bif olds.length == u then done else (o, s, d) :: done)))
   | _, _ => False)
def mixNoU (ids : List FuncId) (v u : Nat) (T : Unit → Tab) (A : Ar) (H : Unit → Kn) (R : Unit → KnR) (o : Op) (st : Store) (olds : List Store) (done : DL) (X : DV → Store → List Store → DL → Prop) : Prop :=
 match tnI ids o, decide (v ≤ olds.length) && decide (olds.length ≤ u) with
 | true, _ => staysL T A H R st done (X (.d (.sc (.tuple #[]))) st (st :: olds) done)
 | false, true => X (.d (.sc (.tuple #[]))) st olds done
 | false, false => False
def mixU (ids : List FuncId) (lv up : List Nat) (T : Unit → Tab) (A : Ar) (H : Unit → Kn) (B : Unit → KnB) (R : Unit → KnR) (N : Nat) (ops : Array Oper) (Q : SL → Store → Prop) : Nat → List Oper → SL → Store → List Store → DL → Prop
 | _, [], s, st, _, _ => Q s st
 | p, o :: rest, s, st, olds, done => match dstB N o.dst, o.guard with
   | true, none => mixOneU ids (lvF lv p) (upF up p) T A H B R o.op s st olds done fun d st1 olds1 done1 => mixU ids lv up T A H B R N ops Q (p + 1) rest (putL o.dst d s) st1 olds1 done1
   | true, some (j, w) => (match slotOf ops j with
     | some k => (match getS s k with
       | .d (.sc (.bool t)) => brC t
         (fun _ => match w with
           | true => mixOneU ids (lvF lv p) (upF up p) T A H B R o.op (setS s k (.d (.sc (.bool true)))) st olds done fun d st1 olds1 done1 => mixU ids lv up T A H B R N ops Q (p + 1) rest (putL o.dst d (setS s k (.d (.sc (.bool true))))) st1 olds1 done1
           | false => mixNoU ids (lvF lv p) (upF up p) T A H R o.op st olds done fun d st1 olds1 done1 => mixU ids lv up T A H B R N ops Q (p + 1) rest (putL o.dst d (setS s k (.d (.sc (.bool true))))) st1 olds1 done1)
         (fun _ => match w with
           | false => mixOneU ids (lvF lv p) (upF up p) T A H B R o.op (setS s k (.d (.sc (.bool false)))) st olds done fun d st1 olds1 done1 => mixU ids lv up T A H B R N ops Q (p + 1) rest (putL o.dst d (setS s k (.d (.sc (.bool false))))) st1 olds1 done1
           | true => mixNoU ids (lvF lv p) (upF up p) T A H R o.op st olds done fun d st1 olds1 done1 => mixU ids lv up T A H B R N ops Q (p + 1) rest (putL o.dst d (setS s k (.d (.sc (.bool false))))) st1 olds1 done1)
       | .d (.sc (.tuple _)) => mixNoU ids (lvF lv p) (upF up p) T A H R o.op st olds done fun d st1 olds1 done1 => mixU ids lv up T A H B R N ops Q (p + 1) rest (putL o.dst d s) st1 olds1 done1
       | _ => False)
     | none => False)
   | false, _ => False
theorem rowSt_from2 (olds : List Store) (st : Store) (later : List Store) (v q : Nat) (hv : v ≤ q) (hq : q ≤ olds.length + later.length) : rowSt olds st later q ∈ olds.take (olds.length - v) ∨ rowSt olds st later q = st ∨ (rowSt olds st later q ∈ later ∧ olds.length < q) := by
 unfold rowSt
 rw [List.getD_eq_getElem?_getD]
 rcases Nat.lt_trichotomy q olds.length with h | h | h
 ·left
  have e : (olds.reverse ++ st :: later)[q]? = olds[olds.length - 1 - q]? := by
   rw [List.getElem?_append_left (by simpa using h), List.getElem?_reverse h]
  rw [e, List.getElem?_eq_getElem (by omega)]
  simp only [Option.getD_some]
  rw [List.mem_take_iff_getElem]
  exact ⟨olds.length - 1 - q, by omega, rfl⟩
 ·right; left
  subst h
  simp
 ·right; right
  refine ⟨?_, h⟩
  rw [List.getElem?_append_right (by simp; omega)]
  simp only [List.length_reverse]
  obtain ⟨r, hr⟩ : ∃ r, q - olds.length = r + 1 := ⟨q - olds.length - 1, by omega⟩
  rw [hr, List.getElem?_cons_succ, List.getElem?_eq_getElem (by omega)]
  simp only [Option.getD_some]
  exact List.getElem_mem _
section mix
variable {P : Program} {ids : List FuncId} {lv up : List Nat} {T : Unit → Tab} (hT : TabOk P (T ())) {H : Unit → Kn} (hH : SoundK P (H ())) {B : Unit → KnB} (hB : SoundB P (B ())) {R : Unit → KnR} (hR : SoundR P (R ())) {N : Nat} {ops : Array Oper} {Q : Slots → Store → Prop}
def MixOkU (P : Program) (ids : List FuncId) (lv up : List Nat) (N : Nat) (ops : Array Oper) (Q : Slots → Store → Prop) (p : Nat) (l : List Oper) (s : Slots) (st : Store) (olds : List Store) (done : DL) : Prop :=
 ∃ later : List Store, lexU ids lv up P N ops (rowSt olds st later) (olds.length + later.length) (fun s' => Q s' (rowSt olds st later (olds.length + later.length))) p l s olds.length ∧ ∀ p ∈ done, ∀ st' ∈ later, ∀ K : DV → Store → Prop, K p.2.2 st' → opD P p.1 (getS p.2.1) st' K
include hT hH hB hR
theorem mixOneU_ok {o : Oper} {rest : List Oper} {p : Nat} {s0 : Slots} {s : SL} (hs : getS s = s0) {st : Store} {olds : List Store} {done : DL} (hd : dstOk N o.dst) (hw : wantedD ops o.guard s0 = some true) {X : DV → Store → List Store → DL → Prop}
  (h : mixOneU ids (lvF lv p) (upF up p) T A0 H B R o.op s st olds done X) (ih : ∀ d st1 olds1 done1, X d st1 olds1 done1 → MixOkU P ids lv up N ops Q (p + 1) rest (putS o.dst d s0) st1 olds1 done1) : MixOkU P ids lv up N ops Q p (o :: rest) s0 st olds done := by
 subst hs
 unfold mixOneU at h
 split at h
 ·rename_i ht
  split at h
  ·rename_i cs d st1 hv
   rw [allP_iff] at h
   obtain ⟨hc, h⟩ := h
   obtain ⟨h2, h3⟩ := staysL_ok hT hH hR _ h
   obtain ⟨later, g1, g2⟩ := ih _ _ _ _ h3
   have hl : olds.length + (st1 :: later).length = (st :: olds).length + later.length := by simp; omega
   refine ⟨st1 :: later, ⟨d, olds.length + 1, ?_, hd, ?_⟩, ?_⟩
   ·unfold StepU
    rw [if_pos ht]
    refine ⟨?_, rfl, by simp⟩
    rw [rowSt_at, rowSt_next, show olds.length + 1 = (st :: olds).length from rfl, rowSt_at]
    exact .inl ⟨hw, fun K hK => tvV_D hT hB hv hc hK⟩
   ·rw [rowSt_next, hl]
    exact g1
   ·intro p hp st' hst'
    rcases List.mem_cons.1 hst' with rfl | hst'
    ·exact h2 p hp
    ·exact g2 p hp st' hst'
  ·exact h.elim
 ·rename_i ht
  split at h
  ·rename_i cs d hv hle
   rw [allP_iff] at h
   obtain ⟨hc, h⟩ := h
   obtain ⟨h2, h3⟩ := stoodL_ok hT hH hR _ h
   obtain ⟨later, g1, g2⟩ := ih _ _ _ _ h3
   simp only [Bool.and_eq_true, decide_eq_true_eq] at hle
   refine ⟨later, ⟨d, olds.length, ?_, hd, g1⟩, fun p hp => g2 p (by cases (olds.length == upF up _) <;> simp [hp])⟩
   unfold StepU
   rw [if_neg (by simp [ht])]
   refine ⟨fun q hq0 hq1 hq => .inl ⟨hw, ?_⟩, rfl, hle.1, hle.2⟩
   rcases rowSt_from2 olds st later _ q hq0 hq with e | e | ⟨e, e2⟩
   ·exact h2 _ e
   ·rw [e]; exact fun K hK => pvL_D hT hH hR hv hc hK
   ·refine g2 (o.op, s, d) ?_ _ e
    rw [show (olds.length == upF up p) = false by rw [beq_eq_false_iff_ne]; omega]
    exact List.mem_cons_self ..
  ·exact h.elim
omit hB in
theorem mixNoU_ok {o : Oper} {rest : List Oper} {p : Nat} {s : Slots} {st : Store} {olds : List Store} {done : DL} (hd : dstOk N o.dst) (hw : wantedD ops o.guard s = some false) {X : DV → Store → List Store → DL → Prop}
  (h : mixNoU ids (lvF lv p) (upF up p) T A0 H R o.op st olds done X) (ih : ∀ d st1 olds1 done1, X d st1 olds1 done1 → MixOkU P ids lv up N ops Q (p + 1) rest (putS o.dst d s) st1 olds1 done1) : MixOkU P ids lv up N ops Q p (o :: rest) s st olds done := by
 unfold mixNoU at h
 split at h
 ·rename_i ht
  obtain ⟨h2, h3⟩ := staysL_ok hT hH hR _ h
  obtain ⟨later, g1, g2⟩ := ih _ _ _ _ h3
  have hl : olds.length + (st :: later).length = (st :: olds).length + later.length := by simp; omega
  refine ⟨st :: later, ⟨.d (.sc (.tuple #[])), olds.length + 1, ?_, hd, ?_⟩, ?_⟩
  ·unfold StepU
   rw [if_pos ht]
   refine ⟨.inr ⟨hw, rfl, ?_⟩, rfl, by simp⟩
   rw [rowSt_at, rowSt_next, show olds.length + 1 = (st :: olds).length from rfl, rowSt_at]
  ·rw [rowSt_next, hl]
   exact g1
  ·intro p hp st' hst'
   rcases List.mem_cons.1 hst' with rfl | hst'
   ·exact h2 p hp
   ·exact g2 p hp st' hst'
 ·rename_i ht hle
  obtain ⟨later, g1, g2⟩ := ih _ _ _ _ h
  refine ⟨later, ⟨.d (.sc (.tuple #[])), olds.length, ?_, hd, g1⟩, g2⟩
  unfold StepU
  rw [if_neg (by simp [ht])]
  simp only [Bool.and_eq_true, decide_eq_true_eq] at hle
  exact ⟨fun q _ _ hq => .inr ⟨hw, rfl, rfl⟩, rfl, hle.1, hle.2⟩
 ·exact h.elim
theorem mixU_ok {Q : SL → Store → Prop} : ∀ (l : List Oper) (p : Nat) (s : SL) (st : Store) (olds : List Store) (done : DL), mixU ids lv up T A0 H B R N ops Q p l s st olds done → MixOkU P ids lv up N ops (fun s' st' => ∃ l, getS l = s' ∧ Q l st') p l (getS s) st olds done
 | [], p, s, st, olds, done, h => ⟨[], ⟨rfl, by rw [show olds.length + ([] : List Store).length = olds.length from rfl, rowSt_at]; exact ⟨s, rfl, h⟩⟩, fun _ _ _ h => by cases h⟩
 | o :: rest, p, s, st, olds, done, h => by
     have next : ∀ s2 : SL, getS s2 = getS s → ∀ (d : DV) (st1 : Store) (olds1 : List Store) (done1 : DL), mixU ids lv up T A0 H B R N ops Q (p + 1) rest (putL o.dst d s2) st1 olds1 done1 → MixOkU P ids lv up N ops (fun s' st' => ∃ l, getS l = s' ∧ Q l st') (p + 1) rest (putS o.dst d (getS s)) st1 olds1 done1 := fun s2 h2 d st1 olds1 done1 hq => by
      have := mixU_ok rest _ _ _ _ _ hq
      rw [getS_putL, h2] at this
      exact this
     unfold mixU at h
     split at h
     ·rename_i hd hg
      exact mixOneU_ok hT hH hB hR rfl (dstB_ok hd) (by rw [hg]; rfl) h (next s rfl)
     ·rename_i j w hd hg
      split at h
      ·rename_i k hk
       split at h
       ·rename_i t ht
        have hs : ∀ b, b = t → getS (setS s k (.d (.sc (.bool b)))) = getS s := fun b e => getS_same (by rw [e]; exact ht)
        cases t <;> cases w <;> simp only [brC] at h
        ·exact mixOneU_ok hT hH hB hR (hs _ rfl) (dstB_ok hd) (by rw [hg]; simp only [wantedD, hk, ht, BEq.rfl]) h (next _ (hs _ rfl))
        ·exact mixNoU_ok hT hH hR (dstB_ok hd) (by rw [hg]; simp only [wantedD, hk, ht]; rfl) h (next _ (hs _ rfl))
        ·exact mixNoU_ok hT hH hR (dstB_ok hd) (by rw [hg]; simp only [wantedD, hk, ht]; rfl) h (next _ (hs _ rfl))
        ·exact mixOneU_ok hT hH hB hR (hs _ rfl) (dstB_ok hd) (by rw [hg]; simp only [wantedD, hk, ht, BEq.rfl]) h (next _ (hs _ rfl))
       ·rename_i vs ht
        exact mixNoU_ok hT hH hR (dstB_ok hd) (by rw [hg]; simp only [wantedD, hk, ht]) h (next s rfl)
       ·exact h.elim
      ·exact h.elim
     ·exact h.elim
end mix
theorem regionU (ids : List FuncId) (lv up : List Nat) {P : Program} {T : Unit → Tab} (hT : TabOk P (T ())) {H : Unit → Kn} (hH : SoundK P (H ())) {B : Unit → KnB} (hB : SoundB P (B ())) {R : Unit → KnR} (hR : SoundR P (R ())) (hm : P.follows .mixedOrders = true) {N : Nat} {Q : Exit → SL → Store → Prop} {s : SL} {st : Store} {id : Nat} {ops : Array Oper} {A : Ar} {X : Cps} (hA : A = A0) (hX : X = X0 P N)
  (hl : Region.lexB .any ops = true) (ht : turnsC ids ops = true) (hv : levelsB ids lv ops = true) (hu : upsB ids up ops = true) (hf : fewB ids ops = true) (h : mixU ids lv up T A H B R N ops (Q .normal) 0 ops.toList s st [] []) : X.st (.region id ops true) Q s st := by
 subst hA; subst hX
 obtain ⟨l⟩ := ops
 show wpD P N (.region id l.toArray true) (lessQ Q) (getS s) st
 obtain ⟨later, h1, _⟩ := mixU_ok hT hH hB hR l 0 s st [] [] h
 refine wpD_mono (wpD_U (ids := ids) (lv := lv) (up := up) (id := id) (Q := fun e s' st' => e = .normal ∧ ∃ l, getS l = s' ∧ Q .normal l st') (rowSt [] st later) (0 + later.length) hm hl ht hv hu hf ?_) ?_
 ·simpa using h1
 ·rintro e s' st' ⟨rfl, l, rfl, hq⟩
  exact ⟨l, fun _ => .inl rfl, hq⟩
end Go.Proofs.Ytadnpgkddgbhkaa
namespace Go.Proofs.Ytadnpgkddgbhkaa
open Go.RowKit Go.Maps
set_option linter.all false
def vkD (num : Bool) (v : Value) : Prop := if num = true then ∃ n, v = .int .i64 n else v = .agg #[]
def vzD (num : Bool) : Value := if num = true then .int .i64 0 else .agg #[]
abbrev MapF := Value → Option Value
def MapOkV (P : Program) (kt : TypeId) (num : Bool) (es : Array MapEntry) (G : MapF) : Prop :=
 (∀ e ∈ es.toList, (∃ l, keyOf P kt e.key = some l) ∧ G e.key = some e.val ∧ vkD num e.val) ∧ (∀ x, (∀ e ∈ es.toList, e.key ≠ x) → G x = none) ∧ es.toList.Pairwise fun a b => a.key ≠ b.key
def MapV (P : Program) (kt : TypeId) (num : Bool) (g : Nat) (G : MapF) (w : World) : Prop := ∃ es clock, w.heap[g]? = some (.map es clock) ∧ MapOkV P kt num es G
noncomputable def putV (G : MapF) (x v : Value) : MapF := fun y => open Classical in if y = x then some v else G y
theorem putV_self (G : MapF) (x v : Value) : putV G x v x = some v := by simp [putV]
theorem putV_ne (G : MapF) {x y : Value} (v : Value) (h : y ≠ x) : putV G x v y = G y := by simp [putV, h]
section runs
variable {P : Program} {w : World} {mt kt et : TypeId} {num : Bool} {g : Nat} {G : MapF} (K : Keyed P kt) (hm : P.underlying mt = some (.map kt et)) (hz : ∃ i, P.info? et = some i ∧ i.zero = some (vzD num))
include K hm
omit K hm in
theorem MapV.vk (h : MapV P kt num g G w) {x v : Value} (hx : G x = some v) : vkD num v := by
 obtain ⟨es, clock, h1, h2, h3, h4⟩ := h
 by_cases hq : ∃ e ∈ es.toList, e.key = x
 ·obtain ⟨e, he, rfl⟩ := hq
  obtain ⟨_, h5, h6⟩ := h2 e he
  rw [hx] at h5
  cases h5
  exact h6
 ·rw [h3 x fun e he hk => hq ⟨e, he, hk⟩] at hx
  cases hx
include hz in
theorem run_lookV {x : Value} {l : Lit} (h : MapV P kt num g G w) (hx : keyOf P kt x = some l) (ok : Bool) : (Instr.lookup mt (.map (some g)) x ok).run P w = .ok (if ok then .tuple #[(G x).getD (vzD num), .bool (G x).isSome] else (G x).getD (vzD num)) w := by
 obtain ⟨es, clock, h1, h2, h3, h4⟩ := h
 obtain ⟨i, hi, hz⟩ := hz
 rcases K.find w hx es.toList (fun e he => (h2 e he).1) with ⟨f1, f2⟩ | ⟨j, e, f1, f2, f3⟩
 ·have hn := h3 x f2
  simp [Instr.lookup, run_underlying hm, run_getM h1, K.check w _ hx, f1, Result.andThen, zeroValue, typeInfo, hi, hz, hn]
 ·have he := List.mem_of_getElem? f2
  have hv := (h2 e he).2.1
  rw [f3] at hv
  simp [Instr.lookup, run_underlying hm, run_getM h1, K.check w _ hx, f1, Result.andThen, hv]
theorem run_updV {x v : Value} {l : Lit} (h : MapV P kt num g G w) (hx : keyOf P kt x = some l) (hv : vkD num v) :
  ∃ es' clock', (Instr.mapUpdate mt (.map (some g)) x v).run P w = .ok () { w with heap := w.heap.setIfInBounds g (.map es' clock') } ∧ MapV P kt num g (putV G x v) { w with heap := w.heap.setIfInBounds g (.map es' clock') } := by
 obtain ⟨es, clock, h1, h2, h3, h4⟩ := h
 have hg : g < w.heap.size := (Array.getElem?_eq_some_iff.1 h1).1
 have hset : ∀ o : Obj, (w.heap.setIfInBounds g o)[g]? = some o := fun o => by simp [hg]
 rcases K.find w hx es.toList (fun e he => (h2 e he).1) with ⟨f1, f2⟩ | ⟨j, e, f1, f2, f3⟩
 ·refine ⟨es.push { key := x, val := v, born := clock }, clock + 1, ?_, es.push { key := x, val := v, born := clock }, clock + 1, hset _, ?_, ?_, ?_⟩
  ·simp [Instr.mapUpdate, run_underlying hm, run_getM h1, K.check w _ hx, f1, Result.andThen, run_setM _ h1]
  ·intro e he
   simp only [Array.toList_push, List.mem_append, List.mem_singleton] at he
   rcases he with he | rfl
   ·obtain ⟨a, b, c⟩ := h2 e he
    exact ⟨a, by rw [putV_ne _ _ (f2 e he)]; exact b, c⟩
   ·exact ⟨⟨l, hx⟩, putV_self _ _ _, hv⟩
  ·intro y hy
   have hne : y ≠ x := fun e' => hy { key := x, val := v, born := clock } (by simp) e'.symm
   rw [putV_ne _ _ hne]
   exact h3 y fun e he => hy e (by simp only [Array.toList_push, List.mem_append]; exact .inl he)
  ·simp only [Array.toList_push]
   rw [List.pairwise_append]
   refine ⟨h4, by simp, fun a ha b hb => ?_⟩
   simp only [List.mem_singleton] at hb
   subst hb
   exact f2 a ha
 ·have he := List.mem_of_getElem? f2
  have hj : es[j]? = some e := by simpa using f2
  obtain ⟨hjl, hje⟩ := Array.getElem?_eq_some_iff.1 hj
  obtain ⟨l1, q1⟩ := List.getElem?_eq_some_iff.1 f2
  have uniq : ∀ (i : Nat) (hi : i < es.toList.length), es.toList[i].key = x → i = j := by
   intro i hi hk
   rcases Nat.lt_trichotomy i j with hlt | heq | hgt
   ·have := List.pairwise_iff_getElem.1 h4 i j hi l1 hlt
    rw [q1, f3] at this
    exact absurd hk this
   ·exact heq
   ·have := List.pairwise_iff_getElem.1 h4 j i l1 hi hgt
    rw [q1, f3] at this
    exact absurd hk.symm this
  have hl : (es.modify j (fun e => { e with key := x, val := v })).toList = es.toList.set j { key := x, val := v, born := e.born } := by
   apply List.ext_getElem
   ·simp
   ·intro i h1 h2
    rw [List.getElem_set, Array.getElem_toList, Array.getElem_modify]
    split
    ·rename_i e'; subst e'; simp [hje]
    ·simp
  refine ⟨es.modify j (fun e => { e with key := x, val := v }), clock, ?_, _, clock, hset _, ?_, ?_, ?_⟩
  ·simp [Instr.mapUpdate, run_underlying hm, run_getM h1, K.check w _ hx, f1, Result.andThen, hj, f3, K.stays w hx, run_setM _ h1]
  ·rw [hl]
   intro e' he'
   obtain ⟨i, hi⟩ := List.getElem?_of_mem he'
   obtain ⟨l2, q2⟩ := List.getElem?_eq_some_iff.1 hi
   rw [List.getElem_set] at q2
   split at q2
   ·subst q2
    exact ⟨⟨l, hx⟩, putV_self _ _ _, hv⟩
   ·rename_i hij
    have l3 : i < es.toList.length := by simpa using l2
    obtain ⟨a, b, c⟩ := h2 e' (by rw [← q2]; exact List.getElem_mem l3)
    refine ⟨a, ?_, c⟩
    rw [putV_ne _ _ fun hq => hij ((uniq i l3 (by rw [q2]; exact hq)).symm)]
    exact b
  ·intro y hy
   rw [hl] at hy
   have hne : y ≠ x := fun e' => hy { key := x, val := v, born := e.born } (List.mem_iff_getElem?.2 ⟨j, by rw [List.getElem?_set_self l1]⟩) e'.symm
   rw [putV_ne _ _ hne]
   refine h3 y fun e' he' hk' => ?_
   obtain ⟨i, hi⟩ := List.getElem?_of_mem he'
   by_cases hij : i = j
   ·subst hij
    rw [hi] at f2
    cases f2
    exact hne (by rw [← hk', f3])
   ·refine hy e' (List.mem_iff_getElem?.2 ⟨i, ?_⟩) hk'
    rw [List.getElem?_set, if_neg (fun e => hij e.symm)]
    exact hi
  ·rw [hl, List.pairwise_iff_getElem]
   intro i k hi hk' hik
   have hi2 : i < es.toList.length := by simpa using hi
   have hk2 : k < es.toList.length := by simpa using hk'
   have := List.pairwise_iff_getElem.1 h4 i k hi2 hk2 hik
   rw [List.getElem_set, List.getElem_set]
   split <;> split <;> rename_i e1 e2
   ·omega
   ·subst e1
    rw [q1, f3] at this
    exact this
   ·subst e2
    rw [q1, f3] at this
    exact this
   ·exact this
end runs
structure ExtM (g0 : Nat) (E E' : Env) : Prop where
 size : E.w.heap.size ≤ E'.w.heap.size
 os : E'.w.os = E.w.os
 tape : E'.w.tape = E.w.tape
 output : E'.w.output = E.w.output
 set : ∀ g, E.S g → E'.S g
 fresh : ∀ g, E'.S g → E.S g ∨ E.w.heap.size ≤ g ∨ ∃ b z : Nat, E.σ[b]? = some (g, z)
 heap : ∀ g, g ≠ g0 → g < E.w.heap.size → (∀ (b z : Nat) (bx : Box), E.σ[b]? = some (g, z) → E.st[b]? = some bx → bx.live = false) → E'.w.heap[g]? = E.w.heap[g]?
 box : ∀ (b : Nat) (bx : Box) (gz : Nat × Nat), E.st[b]? = some bx → E.σ[b]? = some gz → ∃ (bx' : Box) (gz' : Nat × Nat), E'.st[b]? = some bx' ∧ E'.σ[b]? = some gz' ∧ bx.ver ≤ bx'.ver ∧
  (bx.ver = bx'.ver → gz = gz') ∧ (bx.live = false → bx'.live = false) ∧ (gz'.1 = gz.1 ∨ E.w.heap.size ≤ gz'.1)
 new : ∀ (b : Nat) (gz : Nat × Nat), E.σ[b]? = none → E'.σ[b]? = some gz → E.w.heap.size ≤ gz.1
theorem Ext.toM {E E' : Env} (g0 : Nat) (h : Ext E E') : ExtM g0 E E' := ⟨h.size, h.os, h.tape, h.output, h.set, h.fresh, fun g _ => h.heap g, h.box, h.new⟩
theorem ExtM.toE {E E' : Env} {g0 : Nat} (h : ExtM g0 E E') (hg : E.w.heap.size ≤ g0) : Ext E E' := ⟨h.size, h.os, h.tape, h.output, h.set, h.fresh, fun g hl => h.heap g (by omega) hl, h.box, h.new⟩
theorem ExtM.trans {g0 : Nat} {E F G : Env} (hE : E.σ.length = E.st.length) (hF : F.σ.length = F.st.length) (h : ExtM g0 E F) (k : ExtM g0 F G) : ExtM g0 E G where
 size := Nat.le_trans h.size k.size
 os := k.os.trans h.os
 tape := k.tape.trans h.tape
 output := k.output.trans h.output
 set := fun g hg => k.set g (h.set g hg)
 fresh := fun g hg => by
  have hsz := h.size
  rcases k.fresh g hg with h1 | h1 | ⟨b, z, h1⟩
  ·exact h.fresh g h1
  ·exact .inr (.inl (by omega))
  ·cases hs : E.σ[b]? with
   | none => exact .inr (.inl (h.new b (g, z) hs h1))
   | some gz =>
     have hlt : b < E.st.length := by rw [← hE]; exact (List.getElem?_eq_some_iff.1 hs).1
     obtain ⟨bx', gz', _, h2, _, _, _, h5⟩ := h.box b _ gz (List.getElem?_eq_getElem hlt) hs
     rw [h1] at h2
     cases h2
     rcases h5 with h5 | h5
     ·simp at h5; subst h5; exact .inr (.inr ⟨b, gz.2, hs⟩)
     ·exact .inr (.inl h5)
 heap := fun g hg0 hg hn => by
  rw [k.heap g hg0 (Nat.lt_of_lt_of_le hg h.size) ?_, h.heap g hg0 hg hn]
  intro b z bx hb hst
  cases hs : E.σ[b]? with
  | none => have := h.new b (g, z) hs hb; simp at this; omega
  | some gz =>
    have hlt : b < E.st.length := by rw [← hE]; exact (List.getElem?_eq_some_iff.1 hs).1
    obtain ⟨bx', gz', h1, h2, _, _, h4, h5⟩ := h.box b _ gz (List.getElem?_eq_getElem hlt) hs
    rw [hb] at h2
    cases h2
    rw [hst] at h1
    cases h1
    rcases h5 with h5 | h5
    ·simp at h5
     subst h5
     exact h4 (hn b gz.2 _ hs (List.getElem?_eq_getElem hlt))
    ·simp at h5; omega
 box := fun b bx gz hb hs => by
  obtain ⟨bx', gz', h1, h2, h3, h4, h5, h6⟩ := h.box b bx gz hb hs
  obtain ⟨bx2, gz2, k1, k2, k3, k4, k5, k6⟩ := k.box b bx' gz' h1 h2
  have hsz := h.size
  refine ⟨bx2, gz2, k1, k2, Nat.le_trans h3 k3, fun e => ?_, fun e => k5 (h5 e), ?_⟩
  ·have e1 : bx.ver = bx'.ver := by omega
   have e2 : bx'.ver = bx2.ver := by omega
   rw [h4 e1, k4 e2]
  ·rcases k6 with k6 | k6
   ·rw [k6]; exact h6
   ·exact .inr (by omega)
 new := fun b gz hn hs => by
  cases hf : F.σ[b]? with
  | none => exact Nat.le_trans h.size (k.new b gz hf hs)
  | some gz' =>
    have hlt : b < F.st.length := by rw [← hF]; exact (List.getElem?_eq_some_iff.1 hf).1
    obtain ⟨bx', gz2, _, k2, _, _, _, k6⟩ := k.box b _ gz' (List.getElem?_eq_getElem hlt) hf
    rw [hs] at k2
    cases k2
    have h1 := h.new b gz' hn hf
    rcases k6 with k6 | k6
    ·rw [k6]; exact h1
    ·exact Nat.le_trans h.size k6
theorem mapTurnM {B E : Env} (hc : Conc E) {N g : Nat} {s : Slots} {a : Act} (hs : SlotsOk E N s a) (hx : ExtM g B E) {es es' : Array MapEntry} {clock clock' : Nat} (hg : E.w.heap[g]? = some (.map es clock)) :
  Conc ⟨{ E.w with heap := E.w.heap.setIfInBounds g (.map es' clock') }, E.S, E.σ, E.st⟩ ∧ SlotsOk ⟨{ E.w with heap := E.w.heap.setIfInBounds g (.map es' clock') }, E.S, E.σ, E.st⟩ N s a ∧ ExtM g B ⟨{ E.w with heap := E.w.heap.setIfInBounds g (.map es' clock') }, E.S, E.σ, E.st⟩ := by
 have hlt : g < E.w.heap.size := (Array.getElem?_eq_some_iff.1 hg).1
 have hne : ∀ k, k ≠ g → (E.w.heap.setIfInBounds g (.map es' clock'))[k]? = E.w.heap[k]? := fun k hk => by simp [Ne.symm hk]
 have hcell : ∀ ad : Addr, World.cell? { E.w with heap := E.w.heap.setIfInBounds g (.map es' clock') } ad = E.w.cell? ad := by
  intro ad
  unfold World.cell?
  by_cases e : ad.block = g
  ·simp only [e, hg, Array.getElem?_setIfInBounds_self, hlt]
   simp [hlt]
  ·simp only [hne _ e]
 have hrep := fun d u => Rep.same (E := E) hcell d u
 refine ⟨⟨hc.len, fun b bx g' z h1 h2 hl => ?_, hc.inj, fun k hk => by simpa using hc.old k hk, fun b g' z h => by simpa using hc.lt b g' z h⟩, ⟨hs.size, fun i => hrep _ _ (hs.rep i), hs.defers⟩, ?_⟩
 ·obtain ⟨cur, a1, a2, a3, a4, a5, a6, a7, a8⟩ := hc.box b bx g' z h1 h2 hl
  have hgg : g' ≠ g := fun e => by subst e; rw [hg] at a1; cases a1
  refine ⟨cur, by rw [← a1]; exact hne g' hgg, a2, a3, a4, a5, a6, fun j d hj => ?_, a8⟩
  obtain ⟨u, b1, b2, b3⟩ := a7 j d hj
  exact ⟨u, b1, b2, hrep d u b3⟩
 ·exact ⟨by simpa using hx.size, hx.os, hx.tape, hx.output, hx.set, hx.fresh, fun k hk0 hk hn => by rw [← hx.heap k hk0 hk hn]; exact hne k hk0, hx.box, hx.new⟩
theorem MapV.ext {P : Program} {kt : TypeId} {num : Bool} {g : Nat} {G : MapF} {E E' : Env} (hc : Conc E) (h : MapV P kt num g G E.w) (hx : Ext E E') : MapV P kt num g G E'.w := by
 obtain ⟨es, clock, h1, h2⟩ := h
 exact ⟨es, clock, map_old hc hx h1, h2⟩
end Go.Proofs.Ytadnpgkddgbhkaa
namespace Go.Proofs.Ytadnpgkddgbhkaa
open Go.RowKit Go.Maps
set_option linter.all false
theorem frame_pre {E : Env} (hc : Conc E) {args' : List DV} {vs : List Value} {sts : Store} (ρ : List Nat) (hn : ρ.Nodup) (hv : ∀ r ∈ ρ, r < E.st.length) (hlen0 : sts.length = ρ.length)
  (hsts : ∀ (k r : Nat) (bx : Box), ρ[k]? = some r → sts[k]? = some bx → E.st[r]? = some (Box.ren (place ρ E.st.length) bx) ∧ closedL ρ.length bx.cells = true) (hcl : closedL ρ.length args' = true) (hargs : Reps E (renL (place ρ E.st.length) args') vs) : Conc (⟨E.w, E.S, ρ.map fun r => E.σ.getD r (0, 0), sts⟩ : Env) ∧ Reps (⟨E.w, E.S, ρ.map fun r => E.σ.getD r (0, 0), sts⟩ : Env) args' vs := by
 have hlen := hc.len
 let σ0 := ρ.map fun r => E.σ.getD r (0, 0)
 let E0 : Env := ⟨E.w, E.S, σ0, sts⟩
 have hρ : ∀ (k r : Nat), ρ[k]? = some r → ∃ gz bx, E.σ[r]? = some gz ∧ E.st[r]? = some (Box.ren (place ρ E.st.length) bx) ∧ E0.σ[k]? = some gz ∧ E0.st[k]? = some bx := by
  intro k r hk
  have hr := hv r (List.mem_of_getElem? hk)
  have hkl := (List.getElem?_eq_some_iff.1 hk).1
  refine ⟨E.σ[r]'(by omega), sts[k]'(by omega), List.getElem?_eq_getElem _, (hsts k r _ hk (List.getElem?_eq_getElem _)).1, ?_, List.getElem?_eq_getElem _⟩
  simp only [E0, σ0, List.getElem?_map, hk, Option.map_some, List.getD_eq_getElem?_getD, List.getElem?_eq_getElem (show r < E.σ.length by omega), Option.getD_some]
 have hk0 : ∀ (k : Nat) (gz : Nat × Nat), E0.σ[k]? = some gz → ∃ r, ρ[k]? = some r ∧ E.σ[r]? = some gz := by
  intro k gz hk
  have hkl : k < ρ.length := by
   have := (List.getElem?_eq_some_iff.1 hk).1
   simpa [E0, σ0] using this
  obtain ⟨gz', bx, h1, _, h3, _⟩ := hρ k _ (List.getElem?_eq_getElem hkl)
  rw [h3] at hk
  cases hk
  exact ⟨_, List.getElem?_eq_getElem hkl, h1⟩
 have hs0 : ∀ (k : Nat) (bx : Box), E0.st[k]? = some bx → ∃ r, ρ[k]? = some r ∧ E.st[r]? = some (Box.ren (place ρ E.st.length) bx) ∧ closedL ρ.length bx.cells = true := by
  intro k bx hk
  have hkl : k < ρ.length := by
   have := (List.getElem?_eq_some_iff.1 hk).1
   simp only [E0] at this
   omega
  have := hsts k _ bx (List.getElem?_eq_getElem hkl) hk
  exact ⟨_, List.getElem?_eq_getElem hkl, this.1, this.2⟩
 have hinj : ∀ (k k' r : Nat), ρ[k]? = some r → ρ[k']? = some r → k = k' := by
  intro k k' r h1 h2
  obtain ⟨l1, e1⟩ := List.getElem?_eq_some_iff.1 h1
  obtain ⟨l2, e2⟩ := List.getElem?_eq_some_iff.1 h2
  rcases Nat.lt_trichotomy k k' with hlt | heq | hgt
  ·exact absurd (e1.trans e2.symm) (List.pairwise_iff_getElem.1 hn k k' l1 l2 hlt)
  ·exact heq
  ·exact absurd (e2.trans e1.symm) (List.pairwise_iff_getElem.1 hn k' k l2 l1 hgt)
 have hback : Back E E0 (place ρ E.st.length) ρ.length := by
  refine ⟨rfl, rfl, fun b bx hb hbx => ?_, fun b gz hb hgz => ?_⟩
  ·obtain ⟨gz', bx', _, h2, _, h4⟩ := hρ b _ (List.getElem?_eq_getElem hb)
   rw [place, List.getElem?_eq_getElem hb] at hbx
   simp only at hbx
   rw [h2] at hbx
   cases hbx
   exact ⟨_, h4, rfl⟩
  ·obtain ⟨gz', bx', h1, _, h3, _⟩ := hρ b _ (List.getElem?_eq_getElem hb)
   rw [place, List.getElem?_eq_getElem hb] at hgz
   simp only at hgz
   rw [h1] at hgz
   cases hgz
   exact h3
 have hc0 : Conc E0 := by
  refine ⟨by simp [E0, σ0, hlen0], fun k bx g z h1 h2 hl => ?_, fun k k' g z g' z' h1 h2 he => ?_, hc.old, fun k g z h1 => ?_⟩
  ·obtain ⟨r, e1, e2, ecl⟩ := hs0 k bx h1
   obtain ⟨r', e3, e4⟩ := hk0 k _ h2
   rw [e1] at e3
   cases e3
   obtain ⟨cur, a1, a2, a3, a4, a5, a6, a7, a8⟩ := hc.box r _ g z e2 e4 hl
   refine ⟨cur, a1, a2, by simpa [Box.ren] using a3, fun he => by simpa [Box.ren] using a4 he, a5, a6, fun j d hj => ?_, a8⟩
   obtain ⟨u, c1, c2, c3⟩ := a7 j (renD (place ρ E.st.length) d) (by simp [Box.ren, hj])
   exact ⟨u, c1, c2, Rep.back hback d u (closedL_get ecl hj) c3⟩
  ·obtain ⟨r, e1, e2⟩ := hk0 k _ h1
   obtain ⟨r', e3, e4⟩ := hk0 k' _ h2
   have := hc.inj r r' g z g' z' e2 e4 he
   subst this
   exact hinj k k' r e1 e3
  ·obtain ⟨r, e1, e2⟩ := hk0 k _ h1
   exact hc.lt r g z e2
 exact ⟨hc0, Reps.back hback args' vs hcl hargs⟩
theorem frame_post {E : Env} (hc : Conc E) {sts : Store} (ρ : List Nat) (hn : ρ.Nodup) (hv : ∀ r ∈ ρ, r < E.st.length) (hlen0 : sts.length = ρ.length)
  (hsts : ∀ (k r : Nat) (bx : Box), ρ[k]? = some r → sts[k]? = some bx → E.st[r]? = some (Box.ren (place ρ E.st.length) bx) ∧ closedL ρ.length bx.cells = true) {E1 : Env} {v : Value} {r : DV} (hc1 : Conc E1) (hx1 : Ext (⟨E.w, E.S, ρ.map fun r => E.σ.getD r (0, 0), sts⟩ : Env) E1) (hr : Rep E1 r v) :
  ∃ E' : Env, E'.w = E1.w ∧ ρ.length ≤ E1.st.length ∧ E'.st = mergeL E.st ρ (E1.st.map (Box.ren (place ρ E.st.length))) ∧ Conc E' ∧ Ext E E' ∧ Rep E' (renD (place ρ E.st.length) r) v := by
 have hlen := hc.len
 let σ0 := ρ.map fun r => E.σ.getD r (0, 0)
 let E0 : Env := ⟨E.w, E.S, σ0, sts⟩
 have hρ : ∀ (k r : Nat), ρ[k]? = some r → ∃ gz bx, E.σ[r]? = some gz ∧ E.st[r]? = some (Box.ren (place ρ E.st.length) bx) ∧ E0.σ[k]? = some gz ∧ E0.st[k]? = some bx := by
  intro k r hk
  have hr := hv r (List.mem_of_getElem? hk)
  have hkl := (List.getElem?_eq_some_iff.1 hk).1
  refine ⟨E.σ[r]'(by omega), sts[k]'(by omega), List.getElem?_eq_getElem _, (hsts k r _ hk (List.getElem?_eq_getElem _)).1, ?_, List.getElem?_eq_getElem _⟩
  simp only [E0, σ0, List.getElem?_map, hk, Option.map_some, List.getD_eq_getElem?_getD, List.getElem?_eq_getElem (show r < E.σ.length by omega), Option.getD_some]
 have hk0 : ∀ (k : Nat) (gz : Nat × Nat), E0.σ[k]? = some gz → ∃ r, ρ[k]? = some r ∧ E.σ[r]? = some gz := by
  intro k gz hk
  have hkl : k < ρ.length := by
   have := (List.getElem?_eq_some_iff.1 hk).1
   simpa [E0, σ0] using this
  obtain ⟨gz', bx, h1, _, h3, _⟩ := hρ k _ (List.getElem?_eq_getElem hkl)
  rw [h3] at hk
  cases hk
  exact ⟨_, List.getElem?_eq_getElem hkl, h1⟩
 have hs0 : ∀ (k : Nat) (bx : Box), E0.st[k]? = some bx → ∃ r, ρ[k]? = some r ∧ E.st[r]? = some (Box.ren (place ρ E.st.length) bx) ∧ closedL ρ.length bx.cells = true := by
  intro k bx hk
  have hkl : k < ρ.length := by
   have := (List.getElem?_eq_some_iff.1 hk).1
   simp only [E0] at this
   omega
  have := hsts k _ bx (List.getElem?_eq_getElem hkl) hk
  exact ⟨_, List.getElem?_eq_getElem hkl, this.1, this.2⟩
 have hinj : ∀ (k k' r : Nat), ρ[k]? = some r → ρ[k']? = some r → k = k' := by
  intro k k' r h1 h2
  obtain ⟨l1, e1⟩ := List.getElem?_eq_some_iff.1 h1
  obtain ⟨l2, e2⟩ := List.getElem?_eq_some_iff.1 h2
  rcases Nat.lt_trichotomy k k' with hlt | heq | hgt
  ·exact absurd (e1.trans e2.symm) (List.pairwise_iff_getElem.1 hn k k' l1 l2 hlt)
  ·exact heq
  ·exact absurd (e2.trans e1.symm) (List.pairwise_iff_getElem.1 hn k' k l2 l1 hgt)
 have hback : Back E E0 (place ρ E.st.length) ρ.length := by
  refine ⟨rfl, rfl, fun b bx hb hbx => ?_, fun b gz hb hgz => ?_⟩
  ·obtain ⟨gz', bx', _, h2, _, h4⟩ := hρ b _ (List.getElem?_eq_getElem hb)
   rw [place, List.getElem?_eq_getElem hb] at hbx
   simp only at hbx
   rw [h2] at hbx
   cases hbx
   exact ⟨_, h4, rfl⟩
  ·obtain ⟨gz', bx', h1, _, h3, _⟩ := hρ b _ (List.getElem?_eq_getElem hb)
   rw [place, List.getElem?_eq_getElem hb] at hgz
   simp only at hgz
   rw [h1] at hgz
   cases hgz
   exact h3
 have hc0 : Conc E0 := by
  refine ⟨by simp [E0, σ0, hlen0], fun k bx g z h1 h2 hl => ?_, fun k k' g z g' z' h1 h2 he => ?_, hc.old, fun k g z h1 => ?_⟩
  ·obtain ⟨r, e1, e2, ecl⟩ := hs0 k bx h1
   obtain ⟨r', e3, e4⟩ := hk0 k _ h2
   rw [e1] at e3
   cases e3
   obtain ⟨cur, a1, a2, a3, a4, a5, a6, a7, a8⟩ := hc.box r _ g z e2 e4 hl
   refine ⟨cur, a1, a2, by simpa [Box.ren] using a3, fun he => by simpa [Box.ren] using a4 he, a5, a6, fun j d hj => ?_, a8⟩
   obtain ⟨u, c1, c2, c3⟩ := a7 j (renD (place ρ E.st.length) d) (by simp [Box.ren, hj])
   exact ⟨u, c1, c2, Rep.back hback d u (closedL_get ecl hj) c3⟩
  ·obtain ⟨r, e1, e2⟩ := hk0 k _ h1
   obtain ⟨r', e3, e4⟩ := hk0 k' _ h2
   have := hc.inj r r' g z g' z' e2 e4 he
   subst this
   exact hinj k k' r e1 e3
  ·obtain ⟨r, e1, e2⟩ := hk0 k _ h1
   exact hc.lt r g z e2
 have hl1 : ρ.length ≤ E1.st.length := by
  rcases Nat.lt_or_ge E1.st.length ρ.length with hlt | hge
  ·obtain ⟨gz, bx, _, _, h3, h4⟩ := hρ E1.st.length _ (List.getElem?_eq_getElem hlt)
   obtain ⟨bx', gz', q1, _⟩ := hx1.box _ _ _ h4 h3
   have := (List.getElem?_eq_some_iff.1 q1).1
   omega
  ·exact hge
 have hl2 : ρ.length ≤ E1.σ.length := by rw [hc1.len]; exact hl1
 have hvσ : ∀ r ∈ ρ, r < E.σ.length := fun r hr => by rw [hlen]; exact hv r hr
 let φ := place ρ E.st.length
 let E' : Env := ⟨E1.w, E1.S, mergeL E.σ ρ E1.σ, mergeL E.st ρ (E1.st.map (Box.ren φ))⟩
 have hst' : ∀ k, E'.st[φ k]? = (E1.st[k]?).map (Box.ren φ) := fun k => by
  have := mergeL_at E.st ρ (E1.st.map (Box.ren φ)) hn hv (by simpa using hl1) k
  simpa [E', φ] using this
 have hσ' : ∀ k, E'.σ[φ k]? = E1.σ[k]? := fun k => by
  have := mergeL_at E.σ ρ E1.σ hn hvσ hl2 k
  rw [hlen] at this
  exact this
 have hunder : Under E1 E' φ := ⟨rfl, rfl, fun b bx hb => ⟨Box.ren φ bx, by rw [hst', hb]; rfl, rfl⟩, fun b gz hb => by rw [hσ', hb]⟩
 have hoff : ∀ i, i < E.st.length → i ∉ ρ → E'.st[i]? = E.st[i]? ∧ E'.σ[i]? = E.σ[i]? := fun i hi hm => ⟨mergeL_off E.st ρ _ hi hm, mergeL_off E.σ ρ _ (by omega) hm⟩
 have hφ : ∀ k r, ρ[k]? = some r → φ k = r := fun k r hk => by simp [φ, place, hk]
 have hφn : ∀ k, ρ.length ≤ k → φ k = E.st.length + (k - ρ.length) := fun k hk => by simp [φ, place, List.getElem?_eq_none hk]
 have hold : ∀ (i g z : Nat), E.σ[i]? = some (g, z) → i ∉ ρ → E1.w.heap[g]? = E.w.heap[g]? := by
  intro i g z hi hm
  refine hx1.heap g (hc.lt i g z hi) fun b z' bx hb hbx => ?_
  obtain ⟨r, e1, e2⟩ := hk0 b _ hb
  have := hc.inj i r g z g z' hi e2 rfl
  subst this
  exact absurd (List.mem_of_getElem? e1) hm
 have hx : Ext E E' := by
  refine ⟨hx1.size, hx1.os, hx1.tape, hx1.output, hx1.set, fun g hg => ?_, fun g hg hd => ?_, fun b bx gz h1 h2 => ?_, fun b gz h1 h2 => ?_⟩
  ·rcases hx1.fresh g hg with q | q | ⟨b, z, q⟩
   ·exact .inl q
   ·exact .inr (.inl q)
   ·obtain ⟨r, _, e2⟩ := hk0 b _ q
    exact .inr (.inr ⟨r, z, e2⟩)
  ·refine hx1.heap g hg fun b z bx hb hbx => ?_
   obtain ⟨r, e1, e2⟩ := hk0 b _ hb
   obtain ⟨r', e3, e4, _⟩ := hs0 b _ hbx
   rw [e1] at e3
   cases e3
   exact hd r z (Box.ren (place ρ E.st.length) bx) e2 e4
  ·by_cases hm : b ∈ ρ
   ·obtain ⟨k, hk⟩ := List.getElem?_of_mem hm
    obtain ⟨gz', bx', e1, e2, e3, e4⟩ := hρ k b hk
    rw [h1] at e2
    rw [h2] at e1
    cases e1; cases e2
    obtain ⟨bx2, gz2, q1, q2, q3, q4, q5, q6⟩ := hx1.box k bx' gz e4 e3
    refine ⟨Box.ren φ bx2, gz2, ?_, ?_, q3, q4, q5, q6⟩
    ·rw [← hφ k b hk, hst', q1]; rfl
    ·rw [← hφ k b hk, hσ', q2]
   ·have hb := (List.getElem?_eq_some_iff.1 h1).1
    obtain ⟨o1, o2⟩ := hoff b hb hm
    exact ⟨bx, gz, o1.trans h1, o2.trans h2, Nat.le_refl _, fun _ => rfl, id, .inl rfl⟩
  ·have hb := List.getElem?_eq_none_iff.1 h1
   rcases mergeL_cases E.σ ρ E1.σ h2 with ⟨q, _⟩ | ⟨k, q⟩
   ·omega
   ·rw [hlen] at q
    have h3 : E1.σ[k]? = some gz := by rw [← hσ' k]; rw [q] at h2; exact h2
    refine hx1.new k gz ?_ h3
    simp only [E0, σ0]
    rw [List.getElem?_eq_none_iff, List.length_map]
    rcases Nat.lt_or_ge k ρ.length with hlt | hge
    ·have := hφ k _ (List.getElem?_eq_getElem hlt)
     have h4 := hv ρ[k] (List.getElem_mem hlt)
     simp only [φ] at this
     omega
    ·exact hge
 have hcE : Conc E' := by
  refine ⟨?_, fun b bx g z h1 h2 hl => ?_, fun b b' g z g' z' h1 h2 he => ?_, hc1.old, fun b g z h1 => ?_⟩
  ·simp only [E', mergeL_length, List.length_map, hc1.len, hlen]
  ·rcases mergeL_cases E.st ρ _ h1 with ⟨q1, q2⟩ | ⟨k, rfl⟩
   ·obtain ⟨o1, o2⟩ := hoff b q1 q2
    rw [o1] at h1
    rw [o2] at h2
    obtain ⟨cur, a1, a2, a3, a4, a5, a6, a7, a8⟩ := hc.box b bx g z h1 h2 hl
    refine ⟨cur, (hold b g z h2 q2).trans a1, a2, a3, a4, a5, fun hS => ?_, fun j d hj => ?_, a8⟩
    ·rcases hx1.fresh g hS with q | q | ⟨b', z', q⟩
     ·exact a6 q
     ·have := hc.lt b g z h2
      simp only [E0] at q
      omega
     ·obtain ⟨r', e1, e2⟩ := hk0 b' _ q
      have := hc.inj b r' g z g z' h2 e2 rfl
      subst this
      exact q2 (List.mem_of_getElem? e1)
    ·obtain ⟨u, c1, c2, c3⟩ := a7 j d hj
     exact ⟨u, c1, c2, Rep.ext hc hx d u c3⟩
   ·have h1' : E'.st[φ k]? = some bx := h1
    have h2' : E'.σ[φ k]? = some (g, z) := h2
    rw [hst'] at h1'
    rw [hσ'] at h2'
    cases hb0 : E1.st[k]? with
    | none => rw [hb0] at h1'; cases h1'
    | some bx1 =>
      rw [hb0] at h1'
      simp only [Option.map_some, Option.some.injEq] at h1'
      subst h1'
      obtain ⟨cur, a1, a2, a3, a4, a5, a6, a7, a8⟩ := hc1.box k bx1 g z hb0 h2' hl
      refine ⟨cur, a1, a2, by simpa [Box.ren] using a3, fun he => by simpa [Box.ren] using a4 he, a5, a6, fun j d hj => ?_, a8⟩
      simp only [Box.ren, List.getElem?_map] at hj
      cases hd : bx1.cells[j]? with
      | none => rw [hd] at hj; cases hj
      | some d1 =>
        rw [hd] at hj
        simp only [Option.map_some, Option.some.injEq] at hj
        subst hj
        obtain ⟨u, c1, c2, c3⟩ := a7 j d1 hd
        exact ⟨u, c1, c2, Rep.ren hunder d1 u c3⟩
  ·subst he
   have split : ∀ (b z : Nat), E'.σ[b]? = some (g, z) → (E.σ[b]? = some (g, z) ∧ b ∉ ρ) ∨ ∃ k, b = φ k ∧ E1.σ[k]? = some (g, z) := by
    intro b z hb
    rcases mergeL_cases E.σ ρ E1.σ hb with ⟨q1, q2⟩ | ⟨k, q⟩
    ·exact .inl ⟨by rw [← (hoff b (by omega) q2).2]; exact hb, q2⟩
    ·rw [hlen] at q
     exact .inr ⟨k, q, by rw [← hσ' k]; rw [q] at hb; exact hb⟩
   have mixed : ∀ (b k z z' : Nat), E.σ[b]? = some (g, z) → b ∉ ρ → E1.σ[k]? = some (g, z') → False := by
    intro b k z z' q1 q2 q3
    have hlt := hc.lt b g z q1
    cases hk : E0.σ[k]? with
    | none => have := hx1.new k _ hk q3; simp only [E0] at this; omega
    | some gz =>
      obtain ⟨r, e1, e2⟩ := hk0 k gz hk
      have hkl := (List.getElem?_eq_some_iff.1 hk).1
      have hkl' : k < E0.st.length := by
       simp only [E0, σ0, List.length_map] at hkl ⊢
       omega
      obtain ⟨bx2, gz2, p1, p2, _, _, _, p6⟩ := hx1.box k _ gz (List.getElem?_eq_getElem hkl') hk
      rw [q3] at p2
      cases p2
      rcases p6 with p6 | p6
      ·simp only at p6
       have := hc.inj b r g z g gz.2 q1 (by rw [e2, p6]) rfl
       subst this
       exact q2 (List.mem_of_getElem? e1)
      ·simp only [E0] at p6; omega
   rcases split b z h1 with ⟨p1, p2⟩ | ⟨k, rfl, p2⟩ <;> rcases split b' z' h2 with ⟨q1, q2⟩ | ⟨k', rfl, q2⟩
   ·exact hc.inj b b' g z g z' p1 q1 rfl
   ·exact (mixed b k' z z' p1 p2 q2).elim
   ·exact (mixed b' k z' z q1 q2 p2).elim
   ·rw [hc1.inj k k' g z g z' p2 q2 rfl]
  ·rcases mergeL_cases E.σ ρ E1.σ h1 with ⟨q1, q2⟩ | ⟨k, q⟩
   ·have := (hoff b (by omega) q2).2
    rw [this] at h1
    exact Nat.lt_of_lt_of_le (hc.lt b g z h1) hx1.size
   ·rw [hlen] at q
    have h3 : E1.σ[k]? = some (g, z) := by rw [← hσ' k]; rw [q] at h1; exact h1
    exact hc1.lt k g z h3
 exact ⟨E', rfl, hl1, rfl, hcE, hx, Rep.ren hunder r v hr⟩
def setM (E : Env) (g : Nat) (o : Obj) : Env := ⟨{ E.w with heap := E.w.heap.setIfInBounds g o }, E.S, E.σ, E.st⟩
theorem ExtM.split {g : Nat} {E E' : Env} (h : ExtM g E E') {o : Obj} (ho : E'.w.heap[g]? = some o) : Ext (setM E g o) E' := by
 refine ⟨by simpa [setM] using h.size, h.os, h.tape, h.output, h.set, fun k hk => by simpa [setM] using h.fresh k hk, fun k hk hn => ?_, fun b bx gz h1 h2 => by simpa [setM] using h.box b bx gz h1 h2, fun b gz h1 h2 => by simpa [setM] using h.new b gz h1 h2⟩
 by_cases e : k = g
 ·subst e
  have hlt : k < E.w.heap.size := by simpa [setM] using hk
  simp [setM, hlt, ho]
 ·rw [h.heap k e (by simpa [setM] using hk) hn]
  simp [setM, Ne.symm e]
theorem ExtM.join {g : Nat} {E E' : Env} {o : Obj} (h : Ext (setM E g o) E') : ExtM g E E' := by
 refine ⟨by simpa [setM] using h.size, h.os, h.tape, h.output, h.set, fun k hk => by simpa [setM] using h.fresh k hk, fun k hne hk hn => ?_, fun b bx gz h1 h2 => by simpa [setM] using h.box b bx gz h1 h2, fun b gz h1 h2 => by simpa [setM] using h.new b gz h1 h2⟩
 rw [h.heap k (by simpa [setM] using hk) hn]
 simp [setM, Ne.symm hne]
theorem ExtM.retell {g : Nat} {B E E2 : Env} (hB : B.σ.length = B.st.length) (hs : E2.w = E.w) (ht : ∀ F : Env, F.σ.length = F.st.length → F.st.length ≤ B.st.length → Ext F E → Ext F E2) (h : ExtM g B E) {o : Obj} (ho : E.w.heap[g]? = some o) : ExtM g B E2 :=
 ExtM.join (ht (setM B g o) hB (Nat.le_refl _) (h.split ho))
theorem MapV.obj {P : Program} {kt : TypeId} {num : Bool} {g : Nat} {G : MapF} {w : World} (h : MapV P kt num g G w) : ∃ es clock, w.heap[g]? = some (.map es clock) := by
 obtain ⟨es, clock, h1, _⟩ := h
 exact ⟨es, clock, h1⟩
def FnM (P : Program) (kt : TypeId) (num : Bool) (f : FuncId) (args : List DV) (st : Store) (g : Nat) (G : MapF) (R : DV → Store → MapF → Prop) : Prop :=
 ∀ (E : Env) (vs : List Value), Conc E → E.st = st → Reps E args vs → MapV P kt num g G E.w → Calls P f vs.toArray E.w fun e w' => ∃ (v : Value) (E' : Env) (r : DV) (G' : MapF), e = .returned v ∧ E'.w = w' ∧ R r E'.st G' ∧ Conc E' ∧ ExtM g E E' ∧ MapV P kt num g G' E'.w ∧ Rep E' r v
theorem FnM.mono {P : Program} {kt : TypeId} {num : Bool} {f : FuncId} {args : List DV} {st : Store} {g : Nat} {G : MapF} {R R' : DV → Store → MapF → Prop} (h : FnM P kt num f args st g G R) (hr : ∀ r st' G', R r st' G' → R' r st' G') : FnM P kt num f args st g G R' :=
 fun E vs h1 h2 h3 h4 => (h E vs h1 h2 h3 h4).mono fun _ _ ⟨v, E', r, G', a, b, c, d⟩ => ⟨v, E', r, G', a, b, hr _ _ _ c, d⟩
theorem FnM.at {P : Program} {kt : TypeId} {num : Bool} {f : FuncId} {args args' : List DV} {g : Nat} {G : MapF} {R : DV → Store → MapF → Prop} {st sts : Store} {K : DV → Store → MapF → Prop} (h : FnM P kt num f args' sts g G R) (ρ : List Nat) (hρ : (decide ρ.Nodup && ρ.all (fun r => decide (r < st.length)) && (sts.length == ρ.length) && closedL ρ.length args') = true)
  (hsts : ∀ (k r : Nat) (bx : Box), ρ[k]? = some r → sts[k]? = some bx → st[r]? = some (Box.ren (place ρ st.length) bx) ∧ closedL ρ.length bx.cells = true) (ha : args = renL (place ρ st.length) args')
  (hk : ∀ r0 stc G', R r0 stc G' → ρ.length ≤ stc.length → K (renD (place ρ st.length) r0) (mergeL st ρ (stc.map (Box.ren (place ρ st.length)))) G') : FnM P kt num f args st g G K := by
 simp only [Bool.and_eq_true, decide_eq_true_eq, List.all_eq_true, decide_eq_true_eq] at hρ
 obtain ⟨⟨⟨hn, hv⟩, hl⟩, hcl⟩ := hρ
 subst ha
 intro E vs hc hst hargs hM
 subst hst
 obtain ⟨hc0, hr0⟩ := frame_pre hc ρ hn hv (eqb hl) hsts hcl hargs
 refine (h _ vs hc0 rfl hr0 hM).mono ?_
 rintro e w' ⟨v, E1, r, G', rfl, rfl, hR, hc1, hx1, hM1, hr⟩
 obtain ⟨es0, clock0, q0⟩ := hM.obj
 obtain ⟨es, clock, q1⟩ := hM1.obj
 obtain ⟨k1, _, _⟩ := mapTurnM (B := E) (N := 0) (s := fun _ => .any) (a := { tmps := #[], defers := [] }) hc ⟨rfl, fun _ => trivial, rfl⟩ ((Ext.refl E).toM g) (es' := es) (clock' := clock) q0
 obtain ⟨E', a1, a2, a3, a4, a5, a6⟩ := frame_post (E := setM E g (.map es clock)) k1 ρ hn hv (eqb hl) hsts hc1 (hx1.split q1) hr
 exact ⟨v, E', _, G', rfl, a1, by rw [a3]; exact hk r E1.st G' hR a2, a4, ExtM.join a5, by rw [a1]; exact hM1, a6⟩
abbrev MY := Option (Nat × MapF)
def MapY (P : Program) (kt : TypeId) (num : Bool) (I : Nat → Prop) (B E : Env) : MY → Prop
 | none => Ext B E
 | some (g, G) => ExtM g B E ∧ MapV P kt num g G E.w ∧ I g
section
variable {P : Program} {kt : TypeId} {num : Bool} {I : Nat → Prop} {B : Env} (hB : B.σ.length = B.st.length)
include hB
theorem MapY.ext {E E' : Env} (hc : Conc E) {y : MY} (h : MapY P kt num I B E y) (hx : Ext E E') : MapY P kt num I B E' y := by
 rcases y with _ | ⟨g, G⟩
 ·exact Ext.trans hB hc.len h hx
 ·exact ⟨ExtM.trans hB hc.len h.1 (hx.toM g), h.2.1.ext hc hx, h.2.2⟩
theorem MapY.told {E E2 : Env} (hs : E2.w = E.w) (ht : ∀ F : Env, F.σ.length = F.st.length → F.st.length ≤ B.st.length → Ext F E → Ext F E2) {y : MY} (h : MapY P kt num I B E y) : MapY P kt num I B E2 y := by
 rcases y with _ | ⟨g, G⟩
 ·exact ht B hB (Nat.le_refl _) h
 ·obtain ⟨es, clock, q⟩ := h.2.1.obj
  exact ⟨ExtM.retell hB hs ht h.1 q, by rw [hs]; exact h.2.1, h.2.2⟩
end
def wpM (P : Program) (N : Nat) (B : Env) (kt : TypeId) (num : Bool) (I : Nat → Prop) (c : Code) (Q : Exit → SL → Store → MY → Prop) (s : SL) (st : Store) (y : MY) : Prop :=
 ∀ (E : Env) (a : Act), Conc E → E.st = st → SlotsOk E N (getS s) a → MapY P kt num I B E y →
   c.wp P (fun e a' w' => ∃ (l : SL) (E' : Env) (y' : MY), E'.w = w' ∧ Q e l E'.st y' ∧ Conc E' ∧ MapY P kt num I B E' y' ∧ SlotsOk E' N (getS l) a') a E.w
def thenM (next : SL → Store → MY → Prop) (Q : Exit → SL → Store → MY → Prop) : Exit → SL → Store → MY → Prop
 | .normal, s, st, y => next s st y
 | e, s, st, y => Q e s st y
def blockM (id : Nat) (Q : Exit → SL → Store → MY → Prop) : Exit → SL → Store → MY → Prop
 | .exit id', s, st, y => (match (id' == id) with
   | true => Q .normal s st y
   | false => Q (.exit id') s st y)
 | e, s, st, y => Q e s st y
section
variable {P : Program} {N : Nat} {B : Env} {kt : TypeId} {num : Bool} {I : Nat → Prop} {Q : Exit → SL → Store → MY → Prop} {s : SL} {st : Store} {y : MY}
theorem wpM_frame (hB : B.σ.length = B.st.length) {c : Code} (h : wpD P N c (lessQ fun e l st' => Q e l st' y) (getS s) st) : wpM P N B kt num I c Q s st y := by
 intro E a hc hst hs hM
 refine wp_mono (h E a hc hst hs) ?_
 rintro e a' w' ⟨s', E', rfl, ⟨l, hl, hq⟩, h1, h2, h3⟩
 exact ⟨l, E', y, rfl, hq, h1, hM.ext hB hc h2, h3.less hl⟩
theorem wpM_mono {c : Code} {Q' : Exit → SL → Store → MY → Prop} (h : wpM P N B kt num I c Q s st y) (hq : ∀ e l st y, Q e l st y → Q' e l st y) : wpM P N B kt num I c Q' s st y :=
 fun E a h1 h2 h3 h4 => wp_mono (h E a h1 h2 h3 h4) fun _ _ _ ⟨l, E', y', k1, k2, k3⟩ => ⟨l, E', y', k1, hq _ _ _ _ k2, k3⟩
theorem wpM_seq {x z : Code} (h : wpM P N B kt num I x (thenM (wpM P N B kt num I z Q) Q) s st y) : wpM P N B kt num I (.seq x z) Q s st y := by
 intro E a hc hst hs hM
 refine wp_seq (wp_mono (h E a hc hst hs hM) ?_)
 rintro e a' w' ⟨l, E', y', rfl, hq, h1, h2, h4⟩
 cases e <;> first
  | exact hq E' a' h1 rfl h4 h2
  | exact ⟨l, E', y', rfl, hq, h1, h2, h4⟩
theorem wpM_block {id : Nat} {c : Code} (h : wpM P N B kt num I c (blockM id Q) s st y) : wpM P N B kt num I (.block id c) Q s st y := by
 intro E a hc hst hs hM
 refine wp_block (wp_mono (h E a hc hst hs hM) ?_)
 rintro e a' w' ⟨l, E', y', rfl, hq, h1, h2, h4⟩
 cases e <;> first
  | exact ⟨l, E', y', rfl, hq, h1, h2, h4⟩
  | (simp only [blockM] at hq
     simp only [Exit.inBlock]
     split
     ·rename_i e
      subst e
      simp only [BEq.rfl] at hq
      exact ⟨l, E', y', rfl, hq, h1, h2, h4⟩
     ·rename_i e
      rw [beq_eq_false_iff_ne.2 e] at hq
      exact ⟨l, E', y', rfl, hq, h1, h2, h4⟩)
theorem wpM_cond {c : Operand} {x z : Code} (t : Bool) (hc : evL s c = .d (.sc (.bool t))) (h1 : t = true → wpM P N B kt num I x Q s st y) (h2 : t = false → wpM P N B kt num I z Q s st y) : wpM P N B kt num I (.cond c x z) Q s st y := by
 intro E a hcc hst hs hM
 have := ev_rep hs c
 rw [show ev (getS s) c = .d (.sc (.bool t)) from hc] at this
 cases t
 ·exact wp_cond_false this (h2 rfl E a hcc hst hs hM)
 ·exact wp_cond_true this (h1 rfl E a hcc hst hs hM)
theorem wpM_loop {c : Code} (J : Nat → SL → Store → MY → Prop) (n0 : Nat) (h0 : J n0 s st y)
  (round : ∀ n s1 st1 y1, J n s1 st1 y1 → wpM P N B kt num I c (thenM (fun s' st' y' => ∃ m s2 st2, m < n ∧ Told B.st.length s' st' s2 st2 ∧ J m s2 st2 y') Q) s1 st1 y1) (hB : B.σ.length = B.st.length) : wpM P N B kt num I (.loop c) Q s st y := by
 intro E a hc hst hs hM
 subst hst
 let R : Nat → Act → World → Prop := fun n a w => ∃ (s1 : SL) (E1 : Env) (y1 : MY), E1.w = w ∧ J n s1 E1.st y1 ∧ Conc E1 ∧ MapY P kt num I B E1 y1 ∧ SlotsOk E1 N (getS s1) a
 classical
 refine wp_loop (fun a w => ∃ n, R n a w) (fun a w => if h : ∃ n, R n a w then Classical.choose (least _ h) else 0) ⟨n0, s, E, y, rfl, h0, hc, hM, hs⟩ ?_
 intro a1 w1 hR
 have hspec := (Classical.choose_spec (least _ hR)).1
 rw [dif_pos hR]
 generalize Classical.choose (least _ hR) = n at hspec ⊢
 obtain ⟨s1, E1, y1, rfl, hI, hc1, hM1, hs1⟩ := hspec
 refine wp_mono (round n s1 E1.st y1 hI E1 a1 hc1 rfl hs1 hM1) ?_
 rintro e a' w' ⟨l, E', y', rfl, hq, h1, h2, h4⟩
 cases e
 case normal =>
  obtain ⟨m, s2, st2, hm, ht, hI2⟩ := hq
  obtain ⟨E2, b1, b2, b3, b4, b5⟩ := ht E' N a' h1 rfl h4
  have hRm : R m a' E'.w := ⟨s2, E2, y', b1, by rw [b2]; exact hI2, b3, h2.told hB b1 b5, b4⟩
  have hex : ∃ n, R n a' E'.w := ⟨m, hRm⟩
  refine ⟨hex, ?_⟩
  rw [dif_pos hex]
  exact Nat.lt_of_le_of_lt ((Classical.choose_spec (least _ hex)).2 m hRm) hm
 all_goals exact ⟨l, E', y', rfl, hq, h1, h2, h4⟩
theorem wpM_told {c : Code} (hB : B.σ.length = B.st.length) {s2 : SL} {st2 : Store} (ht : Told B.st.length s st s2 st2) (h : wpM P N B kt num I c Q s2 st2 y) : wpM P N B kt num I c Q s st y := by
 intro E a hc hst hs hM
 obtain ⟨E2, b1, b2, b3, b4, b5⟩ := ht E N a hc hst hs
 rw [← b1]
 exact h E2 a b3 b2 b4 (hM.told hB b1 b5)
end
structure GM where
 isT : Nat → Prop
 isM : DV → Nat → Prop
 isKey : Value → Prop
 isV : Value → Prop
 new : Prop
 emp : MapF
 look : MapF → Value → Int
 has : MapF → Value → Bool
 put : MapF → Value → Value → MapF
 fn : FuncId → List DV → Store → Nat → MapF → (DV → Store → MapF → Prop) → Prop
noncomputable def GM0 (P : Program) (mt kt : TypeId) (num : Bool) (B : Env) (I : Nat → Prop) : GM where
 isT t := t = mt
 isM d g := d = .d (.sc (.map (some g)))
 isKey x := ∃ l, keyOf P kt x = some l
 isV v := vkD num v
 new := ∀ g, B.w.heap.size ≤ g → I g
 emp := fun _ => none
 look G x := match G x with
  | some (.int _ n) => n
  | _ => 0
 has G x := (G x).isSome
 put := putV
 fn f args st g G K := hasBody P f = true ∧ FnM P kt num f args st g G K
def lookD (C : GM) (num ok : Bool) (G : MapF) (x : Value) : DV := match num, ok with
 | true, false => .d (.sc (.int .i64 (C.look G x)))
 | false, false => .agg []
 | true, true => .tup [.d (.sc (.int .i64 (C.look G x))), .d (.sc (.bool (C.has G x)))]
 | false, true => .tup [.agg [], .d (.sc (.bool (C.has G x)))]
def memF (f : Nat) : List Nat → Bool
 | [] => false
 | g :: l => bif f == g then true else memF f l
def opM (T : Unit → Tab) (A : Ar) (X : Cps) (H : Unit → Kn) (C : GM) (num : Bool) (ids : List Nat) (o : Op) (s : SL) (st : Store) (y : MY) (K : DV → Store → MY → Prop) : Prop :=
 match o, y with
 | .lookup t m k ok, some (g, G) => (match valueOf (evL s k) with
   | some x => C.isT t ∧ C.isM (evL s m) g ∧ C.isKey x ∧ K (lookD C num ok G x) st (some (g, G))
   | none => False)
 | .mapUpdate t m k v, some (g, G) => (match valueOf (evL s k), valueOf (evL s v) with
   | some x, some z => C.isT t ∧ C.isM (evL s m) g ∧ C.isKey x ∧ C.isV z ∧ K (.d (.sc undef)) st (some (g, C.put G x z))
   | _, _ => False)
 | .makeMap t none, none => C.isT t ∧ C.new ∧ ∀ g, K (.d (.sc (.map (some g)))) st (some (g, C.emp))
 | .call ⟨.value (.func f), args, ts⟩, some (g, G) => (match memF f ids with
   | true => C.fn f (args.toList.map (evL s)) st g G fun d st' G' => K d st' (some (g, G'))
   | false => opC T A X H (.call ⟨.value (.func f), args, ts⟩) s st fun d st' => K d st' (some (g, G)))
 | o, y => opC T A X H o s st fun d st' => K d st' y
def rowM (T : Unit → Tab) (A : Ar) (X : Cps) (H : Unit → Kn) (C : GM) (num : Bool) (ids : List Nat) (N : Nat) (ops : Array Oper) : List Oper → SL → Store → MY → (SL → Store → MY → Prop) → Prop
 | [], s, st, y, Q => Q s st y
 | o :: rest, s, st, y, Q => match dstB N o.dst, o.guard with
   | true, none => opM T A X H C num ids o.op s st y fun d st' y' => rowM T A X H C num ids N ops rest (putL o.dst d s) st' y' Q
   | true, some (j, w) => (match slotOf ops j with
     | some k => (match getS s k with
       | .d (.sc (.bool t)) => brC t
         (fun _ => match w with
           | true => opM T A X H C num ids o.op (setS s k (.d (.sc (.bool true)))) st y fun d st' y' => rowM T A X H C num ids N ops rest (putL o.dst d (setS s k (.d (.sc (.bool true))))) st' y' Q
           | false => rowM T A X H C num ids N ops rest (putL o.dst (.d (.sc (.tuple #[]))) (setS s k (.d (.sc (.bool true))))) st y Q)
         (fun _ => match w with
           | false => opM T A X H C num ids o.op (setS s k (.d (.sc (.bool false)))) st y fun d st' y' => rowM T A X H C num ids N ops rest (putL o.dst d (setS s k (.d (.sc (.bool false))))) st' y' Q
           | true => rowM T A X H C num ids N ops rest (putL o.dst (.d (.sc (.tuple #[]))) (setS s k (.d (.sc (.bool false))))) st y Q)
       | .d (.sc (.tuple _)) => rowM T A X H C num ids N ops rest (putL o.dst (.d (.sc (.tuple #[]))) s) st y Q
       | _ => False)
     | none => False)
   | false, _ => False
def anyM (T : Unit → Tab) (A : Ar) (X : Cps) (H : Unit → Kn) (C : GM) (num : Bool) (ids : List Nat) (N : Nat) (ops : Array Oper) (Q : SL → Store → MY → Prop) : Nat → Array Bool → SL → Store → MY → Prop
 | 0, listed, s, st, y => (match Region.ready .any ops listed with
   | [] => Q s st y
   | _ => False)
 | fuel + 1, listed, s, st, y => (match Region.ready .any ops listed with
   | [] => Q s st y
   | i :: l => allN (i :: l) fun i => match ops[i]? with
     | none => anyM T A X H C num ids N ops Q fuel (listed.setIfInBounds i true) s st y
     | some o => (match dstB N o.dst, o.guard with
       | true, none => opM T A X H C num ids o.op s st y fun d st' y' => anyM T A X H C num ids N ops Q fuel (listed.setIfInBounds i true) (putL o.dst d s) st' y'
       | _, _ => False))
section
variable {P : Program} {T : Unit → Tab} (hT : TabOk P (T ())) {H : Unit → Kn} (hH : SoundK P (H ())) {N : Nat} {B : Env} (hB : B.σ.length = B.st.length) {mt kt et : TypeId} {num : Bool} {I : Nat → Prop} {ids : List Nat}
 (hK : Keyed P kt) (hmt : P.underlying mt = some (.map kt et)) (hz : ∃ i, P.info? et = some i ∧ i.zero = some (vzD num))
include hT hH hB hK hmt hz
theorem opM_ok {E : Env} {s : SL} {a : Act} (hc : Conc E) (hs : SlotsOk E N (getS s) a) {y : MY} (hM : MapY P kt num I B E y) (o : Oper) {K : DV → Store → MY → Prop} (h : opM T A0 (X0 P N) H (GM0 P mt kt num B I) num ids o.op s E.st y K) {next : Act → World → Prop} {Q : Exit → Act → World → Prop}
  (hn : ∀ (d : DV) (v : Value) (E' : Env) (y' : MY), K d E'.st y' → Conc E' → MapY P kt num I B E' y' → SlotsOk E' N (getS s) a → Rep E' d v → next (a.put o.dst v) E'.w) : o.wp P a E.w next Q := by
 have evr : ∀ {k : Operand} {x : Value}, valueOf (evL s k) = some x → a.eval k = x := fun hv => valueOf_rep hv (ev_rep hs _)
 have plain : ∀ {y : MY}, MapY P kt num I B E y → (opC T A0 (X0 P N) H o.op s E.st fun d st' => K d st' y) → o.wp P a E.w next Q := fun hM h => by
  refine op_ok hc hs o (opC_D hT hH h) fun d v E' k1 k2 k3 k4 => ?_
  exact hn d v E' _ k1 k2 (hM.ext hB hc k3) (hs.ext hc k3) k4
 unfold opM at h
 split at h
 ·rename_i t m k ok g G ho
  split at h
  ·rename_i x hv
   obtain ⟨rfl, hm, ⟨l, hl⟩, hk⟩ := h
   have e1 : a.eval m = .map (some g) := valueOf_rep (d := evL s m) (by rw [show evL s m = _ from hm]; rfl) (ev_rep hs m)
   unfold Oper.wp
   simp only [execOp, ho, Sem.run_bind, e1, evr hv, run_lookV hK hmt hz hM.2.1 hl, Result.andThen_ok, Sem.run_pure, Oper.upon]
   refine hn _ _ E _ hk hc hM hs ?_
   cases hG : G x with
   | none =>
     cases num <;> cases ok <;> simp only [lookD, GM0, hG, vzD, Option.getD_none, Option.isSome_none, if_true, if_false, Bool.false_eq_true]
     ·exact ⟨[], rfl, by simp, trivial⟩
     ·exact ⟨[.agg #[], .bool false], rfl, ⟨[], rfl, by simp, trivial⟩, rfl, trivial⟩
     ·rfl
     ·exact ⟨[.int .i64 0, .bool false], rfl, rfl, rfl, trivial⟩
   | some z =>
     have hvk := hM.2.1.vk hG
     cases num
     ·have hz9 : z = .agg #[] := by simpa [vkD] using hvk
      subst hz9
      cases ok <;> simp only [lookD, GM0, hG, Option.getD_some, Option.isSome_some, if_true, if_false, Bool.false_eq_true]
      ·exact ⟨[], rfl, by simp, trivial⟩
      ·exact ⟨[.agg #[], .bool true], rfl, ⟨[], rfl, by simp, trivial⟩, rfl, trivial⟩
     ·obtain ⟨n, rfl⟩ : ∃ n, z = .int .i64 n := by simpa [vkD] using hvk
      cases ok <;> simp only [lookD, GM0, hG, Option.getD_some, Option.isSome_some, if_true, if_false, Bool.false_eq_true]
      ·rfl
      ·exact ⟨[.int .i64 n, .bool true], rfl, rfl, rfl, trivial⟩
  ·exact h.elim
 ·rename_i t m k v g G ho
  split at h
  ·rename_i x z hv hv2
   obtain ⟨rfl, hm, ⟨l, hl⟩, hvv, hk⟩ := h
   have e1 : a.eval m = .map (some g) := valueOf_rep (d := evL s m) (by rw [show evL s m = _ from hm]; rfl) (ev_rep hs m)
   obtain ⟨es', clock', r1, r2⟩ := run_updV hK hmt hM.2.1 hl hvv
   obtain ⟨es, clock, q1⟩ := hM.2.1.obj
   obtain ⟨c1, c2, c3⟩ := mapTurnM (es' := es') (clock' := clock') hc hs hM.1 q1
   unfold Oper.wp
   simp only [execOp, ho, Sem.run_bind, e1, evr hv, evr hv2, r1, Result.andThen_ok, Sem.run_pure, Oper.upon]
   exact hn _ _ ⟨{ E.w with heap := E.w.heap.setIfInBounds g (.map es' clock') }, E.S, E.σ, E.st⟩ (some (g, putV G x z)) hk c1 ⟨c3, r2, hM.2.2⟩ c2 rfl
  ·exact h.elim
 ·rename_i t ho
  obtain ⟨rfl, hmk, h⟩ := h
  have hrun : (Instr.makeMap t none).run P E.w = .ok (.map (some E.w.heap.size)) (E.w.alloc (.map #[] 0)) := by
   simp [Instr.makeMap, Result.andThen]
  obtain ⟨c1, c2⟩ := newNone hc (E.w.alloc (.map #[] 0)) (by simp) (fun k hk => heap_alloc_old _ _ hk) rfl rfl rfl
  have hM1 : Ext B E := hM
  unfold Oper.wp
  simp only [execOp, ho, Option.map_none, Sem.run_bind, hrun, Result.andThen_ok, Sem.run_pure, Oper.upon]
  exact hn _ _ ⟨E.w.alloc (.map #[] 0), E.S, E.σ, E.st⟩ (some (E.w.heap.size, fun _ => none)) (h E.w.heap.size) c1 ⟨(Ext.trans hB hc.len hM1 c2).toM _, ⟨#[], 0, heap_alloc_new _ _, by simp, fun _ _ => rfl, by simp⟩, hmk _ hM1.size⟩ (hs.ext hc c2) rfl
 ·rename_i f args ts g G ho
  split at h
  ·obtain ⟨hb, h⟩ := h
   have hF := h E _ hc rfl (evs_rep hs args.toList) hM.2.1
   have ha : (args.toList.map a.eval).toArray = args.map a.eval := by apply Array.ext'; simp
   rw [ha] at hF
   unfold Oper.wp
   have he : (execOp a.eval o).run P E.w = .ok (.enter f (args.map a.eval)) E.w := by
    simp [execOp, ho, resolve, invoke, Deferred.ofValue, Act.eval, callFunc_run hb]
   rw [he, Oper.upon_enter]
   refine hF.mono ?_
   rintro e w' ⟨v, E', r, G', rfl, rfl, h1, h2, h3, h4, h5⟩
   obtain ⟨es0, clock0, q0⟩ := hM.2.1.obj
   obtain ⟨es, clock, q1⟩ := h4.obj
   obtain ⟨c1, c2, _⟩ := mapTurnM (es' := es) (clock' := clock) hc hs hM.1 q0
   have hx := h3.split q1
   exact hn r v E' (some (g, G')) h1 h2 ⟨ExtM.trans hB hc.len hM.1 h3, h4, hM.2.2⟩ (SlotsOk.ext (E := setM E g (.map es clock)) c1 c2 hx) h5
  ·exact plain hM (by rw [ho]; exact h)
 ·exact plain hM h
theorem rowM_ok {ops : Array Oper} {Q : Exit → Act → World → Prop} : ∀ (l : List Oper) (s : SL) (E : Env) (a : Act) (y : MY) (K : SL → Store → MY → Prop), Conc E → SlotsOk E N (getS s) a → MapY P kt num I B E y → rowM T A0 (X0 P N) H (GM0 P mt kt num B I) num ids N ops l s E.st y K →
  (∀ (s' : SL) (a' : Act) (E' : Env) (y' : MY), K s' E'.st y' → Conc E' → MapY P kt num I B E' y' → SlotsOk E' N (getS s') a' → Q .normal a' E'.w) → wpList P ops Q l a E.w
 | [], s, E, a, y, K, hc, hs, hM, h, hn => hn s a E y h hc hM hs
 | o :: rest, s, E, a, y, K, hc, hs, hM, h, hn => by
     have run : ∀ s2 : SL, getS s2 = getS s → dstB N o.dst = true → wantedD ops o.guard (getS s) = some true → (opM T A0 (X0 P N) H (GM0 P mt kt num B I) num ids o.op s2 E.st y fun d st' y' => rowM T A0 (X0 P N) H (GM0 P mt kt num B I) num ids N ops rest (putL o.dst d s2) st' y' K) → wpList P ops Q (o :: rest) a E.w := fun s2 h2 hd hw h => by
      unfold wpList
      rw [if_pos (wantedD_spec hs hw)]
      rw [← h2] at hs
      refine .inl (opM_ok hT hH hB hK hmt hz hc hs hM o h fun d v E' y' k1 k2 k3 k4 k5 => ?_)
      refine rowM_ok rest _ E' _ y' K k2 ?_ k3 k1 hn
      rw [getS_putL]
      exact k4.putS (dstB_ok hd) k5
     have skip : ∀ s2 : SL, getS s2 = getS s → dstB N o.dst = true → wantedD ops o.guard (getS s) = some false → rowM T A0 (X0 P N) H (GM0 P mt kt num B I) num ids N ops rest (putL o.dst (.d (.sc (.tuple #[]))) s2) E.st y K → wpList P ops Q (o :: rest) a E.w := fun s2 h2 hd hw h => by
      unfold wpList
      rw [wantedD_spec hs hw, if_neg (by simp)]
      refine rowM_ok rest _ E _ y K hc ?_ hM h hn
      rw [getS_putL, h2]
      exact hs.putS (dstB_ok hd) rfl
     unfold rowM at h
     split at h
     ·rename_i hd hg
      exact run s rfl hd (by rw [hg]; rfl) h
     ·rename_i j w hd hg
      split at h
      ·rename_i k hk
       split at h
       ·rename_i t ht
        have hwant : wantedD ops o.guard (getS s) = some (t == w) := by
         rw [hg]
         simp only [wantedD, hk, ht]
        cases t <;> cases w <;> simp only [brC] at h
        ·exact run _ (getS_same ht) hd hwant h
        ·exact skip _ (getS_same ht) hd hwant h
        ·exact skip _ (getS_same ht) hd hwant h
        ·exact run _ (getS_same ht) hd hwant h
       ·rename_i vs ht
        exact skip s rfl hd (by rw [hg]; simp only [wantedD, hk, ht]) h
       ·exact h.elim
      ·exact h.elim
     ·exact h.elim
theorem anyM_ok {ops : Array Oper} {Q : Exit → Act → World → Prop} {K : SL → Store → MY → Prop} : ∀ (fuel : Nat) (listed : Array Bool) (s : SL) (E : Env) (a : Act) (y : MY), Conc E → SlotsOk E N (getS s) a → MapY P kt num I B E y → anyM T A0 (X0 P N) H (GM0 P mt kt num B I) num ids N ops K fuel listed s E.st y →
  (∀ (s' : SL) (a' : Act) (E' : Env) (y' : MY), K s' E'.st y' → Conc E' → MapY P kt num I B E' y' → SlotsOk E' N (getS s') a' → Q .normal a' E'.w) → wpAny P .any ops Q fuel listed a E.w
 | 0, listed, s, E, a, y, hc, hs, hM, h, hn => by
    unfold anyM at h
    split at h
    ·rename_i hr
     exact ⟨hr, hn s a E y h hc hM hs⟩
    ·exact h.elim
 | fuel + 1, listed, s, E, a, y, hc, hs, hM, h, hn => by
    unfold anyM at h
    split at h
    ·rename_i hr
     exact ⟨fun _ => hn s a E y h hc hM hs, fun i hi => (by rw [hr] at hi; cases hi)⟩
    ·rename_i i0 l0 hr
     refine ⟨fun h0 => (by rw [hr] at h0; cases h0), fun i hi => ?_⟩
     rw [hr] at hi
     have hstep := allN_mem h i hi
     unfold wpOp
     cases ho : ops[i]? with
     | none =>
       simp only [ho] at hstep
       exact anyM_ok fuel _ s E a y hc hs hM hstep hn
     | some o =>
       simp only [ho] at hstep
       split at hstep
       ·rename_i hd hg
        show if Region.wanted o (yielded ops a.tmps) then _ else _
        rw [wantedD_spec hs (by rw [hg]; rfl : wantedD ops o.guard (getS s) = some true), if_pos rfl]
        refine .inl (opM_ok hT hH hB hK hmt hz hc hs hM o hstep fun d v E' y' k1 k2 k3 k4 k5 => ?_)
        refine anyM_ok fuel _ _ E' _ y' k2 ?_ k3 k1 hn
        rw [getS_putL]
        exact k4.putS (dstB_ok hd) k5
       ·exact hstep.elim
theorem regionMr {id : Nat} {ops : Array Oper} {Q : Exit → SL → Store → MY → Prop} {s : SL} {st : Store} {y : MY} {A : Ar} {X : Cps} (hA : A = A0) (hX : X = X0 P N)
  (h : ∀ C, C = GM0 P mt kt num B I → rowM T A X H C num ids N ops ops.toList s st y fun s' st' y' => Q .normal s' st' y') : wpM P N B kt num I (.region id ops false) Q s st y := by
 subst hA; subst hX
 obtain ⟨l⟩ := ops
 intro E a hc hst hs hM
 subst hst
 exact wp_region_lit (rowM_ok hT hH hB hK hmt hz l s E a y _ hc hs hM (h _ rfl) fun s' a' E' y' k1 k2 k3 k4 => ⟨s', E', y', rfl, k1, k2, k3, k4⟩)
theorem regionMa (hm : P.follows .mixedOrders = true) {id : Nat} {ops : Array Oper} {Q : Exit → SL → Store → MY → Prop} {s : SL} {st : Store} {y : MY} {A : Ar} {X : Cps} (hA : A = A0) (hX : X = X0 P N)
  (h : ∀ C, C = GM0 P mt kt num B I → anyM T A X H C num ids N ops (fun s' st' y' => Q .normal s' st' y') ops.size (Array.replicate ops.size false) s st y) : wpM P N B kt num I (.region id ops true) Q s st y := by
 subst hA; subst hX
 intro E a hc hst hs hM
 subst hst
 obtain ⟨c1, c2⟩ := newNone hc { E.w with drawn := E.w.drawn + 1 } (Nat.le_refl _) (fun _ _ => rfl) rfl rfl rfl
 refine wp_region_any hm ?_
 exact anyM_ok hT hH hB hK hmt hz (ops := ops) (N := N) (B := B) _ _ s ⟨{ E.w with drawn := E.w.drawn + 1 }, E.S, E.σ, E.st⟩ a y c1 (hs.ext hc c2) (hM.ext hB hc c2) (h _ rfl) fun s' a' E' y' k1 k2 k3 k4 => ⟨s', E', y', rfl, k1, k2, k3, k4⟩
end
end Go.Proofs.Ytadnpgkddgbhkaa
namespace Go.Proofs.Ytadnpgkddgbhkaa
open Go.RowKit Go.Maps
set_option linter.all false
def wpMC (T : Unit → Tab) (A : Ar) (X : Cps) (H : Unit → Kn) (N : Nat) (Y : Code → (Exit → SL → Store → MY → Prop) → SL → Store → MY → Prop) : Code → (Exit → SL → Store → MY → Prop) → SL → Store → MY → Prop
 | .skip, Q, s, st, y => Q .normal s st y
 | .exit id, Q, s, st, y => Q (.exit id) s st y
 | .ret, Q, s, st, y => Q .ret s st y
 | .seq x z, Q, s, st, y => wpMC T A X H N Y x (thenM (wpMC T A X H N Y z Q) Q) s st y
 | .block id c, Q, s, st, y => wpMC T A X H N Y c (blockM id Q) s st y
 | .cond c x z, Q, s, st, y => (match evL s c with
   | .d (.sc (.bool t)) => brC t (fun _ => wpMC T A X H N Y x Q s st y) fun _ => wpMC T A X H N Y z Q s st y
   | _ => False)
 | .region id ops m, Q, s, st, y => (match (T ()).pause id with
   | true => Y (.region id ops m) Q s st y
   | false => wpC T A X H N (.region id ops m) (fun e l st' => Q e l st' y) s st)
 | c, Q, s, st, y => Y c Q s st y
theorem wpMC_ok {P : Program} {T : Unit → Tab} (hT : TabOk P (T ())) {H : Unit → Kn} (hH : SoundK P (H ())) (hm : P.follows .mixedOrders = true) {N : Nat} {B : Env} (hB : B.σ.length = B.st.length) {kt : TypeId} {num : Bool} {I : Nat → Prop} : ∀ (c : Code) (Q : Exit → SL → Store → MY → Prop) (s : SL) (st : Store) (y : MY), wpMC T A0 (X0 P N) H N (wpM P N B kt num I) c Q s st y → wpM P N B kt num I c Q s st y := by
 have self : ∀ {Q : Exit → SL → Store → MY → Prop} {y : MY} {e : Exit} {s : SL} {st : Store}, Q e s st y → lessQ (fun e l st' => Q e l st' y) e (getS s) st := fun h => ⟨_, fun _ => .inl rfl, h⟩
 intro c
 induction c with
 | skip => exact fun _ _ _ _ h => wpM_frame hB (wpD_skip (self h))
 | exit id => exact fun _ _ _ _ h => wpM_frame hB (wpD_exit (self h))
 | ret => exact fun _ _ _ _ h => wpM_frame hB (wpD_ret (self h))
 | seq x z ihx ihz =>
   intro Q s st y h
   refine wpM_seq (wpM_mono (ihx _ _ _ _ h) ?_)
   intro e l st' y' hq
   cases e <;> first
    | exact ihz _ _ _ _ hq
    | exact hq
 | block id c ih => exact fun Q s st y h => wpM_block (ih _ _ _ _ h)
 | cond c x z ihx ihz =>
   intro Q s st y h
   unfold wpMC at h
   split at h
   ·rename_i t ht
    refine wpM_cond t ht (fun e => ?_) fun e => ?_
    ·subst e; exact ihx _ _ _ _ h
    ·subst e; exact ihz _ _ _ _ h
   ·exact h.elim
 | region id ops m =>
   intro Q s st y h
   unfold wpMC at h
   split at h
   ·exact h
   ·exact wpM_frame hB (wpC_ok hT hH hm _ _ _ _ h)
 | _ => exact fun _ _ _ _ h => h
def retM (T : Unit → Tab) (A : Ar) (rs : List ResultVar) (W : MapF → DV → Store → Prop) (e : Exit) (s : SL) (st : Store) : MY → Prop
 | some (_, G) => retC T A rs (W G) e s st
 | none => False
theorem FnM_M {P : Program} {T : Unit → Tab} (hT : TabOk P (T ())) {H : Unit → Kn} (hH : SoundK P (H ())) (hm : P.follows .mixedOrders = true) {kt : TypeId} {num : Bool} {f : FuncId} {fn : Func} {c : Code} {N : Nat} {args : List DV} {st : Store} {g : Nat} {G : MapF} {R : DV → Store → MapF → Prop}
  (hf : P.funcs[f]? = some fn) (hb : fn.body = some c) (hN : fn.ntmps = N) (ha : args.length ≤ N)
  (h : ∀ (A : Ar) (X : Cps) (W : MapF → DV → Store → Prop) (B : Env) (I : Nat → Prop) (Y : Code → (Exit → SL → Store → MY → Prop) → SL → Store → MY → Prop), A = A0 → X = X0 P N → (∀ G, W G = RetW st.length fun r st' => R r st' G) → B.σ.length = B.st.length → B.st = st → Y = wpM P N B kt num I →
    wpMC T A X H N Y c (fun e s st y => retM T A fn.results.toList W e s st y) (initL 0 args) st (some (g, G))) : FnM P kt num f args st g G R := by
 intro E vs hc hst hr hM0
 subst hst
 have hlen := hr.length
 have hs : SlotsOk E N (initS args) { tmps := vs.toArray ++ Array.replicate (fn.ntmps - vs.toArray.size) undef, defers := [] } := by
  refine ⟨by simp; omega, fun i => ?_, rfl⟩
  simp only [initS]
  rw [Array.getD_eq_getD_getElem?]
  by_cases hi : i < vs.length
  ·rw [Array.getElem?_append_left (by simpa using hi), List.getElem?_toArray]
   rw [List.getElem?_eq_getElem (show i < args.length by omega)]
   obtain ⟨v, e1, e2⟩ := hr.get _ _ i _ (List.getElem?_eq_getElem (show i < args.length by omega))
   rw [e1]
   exact e2
  ·rw [List.getElem?_eq_none (show args.length ≤ i by omega)]
   rw [Array.getElem?_append_right (by simp; omega)]
   show _ = undef
   rw [Array.getElem?_replicate]
   split <;> rfl
 have hw1 := wpMC_ok hT hH hm hc.len _ _ _ _ _ (h A0 (X0 P N) (fun G => RetW E.st.length fun r st' => R r st' G) E (fun g' => g' = g) _ rfl rfl (fun _ => rfl) hc.len rfl rfl)
 refine calls_of_wp hf hb (wp_mono (hw1 E _ hc rfl (hs.less (initL_initS args)) ⟨(Ext.refl E).toM g, hM0, rfl⟩) ?_)
 rintro e a' w' ⟨l, E', y', rfl, hq, h1, h2, h3⟩
 rcases y' with _ | ⟨g', G'⟩
 ·exact hq.elim
 obtain ⟨h2, hM1, rfl⟩ := h2
 have fin : resD P (getS l) E'.st fn.results.toList (fun ds => RetW E.st.length (fun r st' => R r st' G') (oneD ds) E'.st) → a'.defers = [] ∧ ∃ v, (results fn a'.tmps).run P E'.w = .ok v E'.w ∧ ∃ (v' : Value) (E2 : Env) (r : DV) (G2 : MapF), Ending.returned v = .returned v' ∧ E2.w = E'.w ∧ R r E2.st G2 ∧ Conc E2 ∧ ExtM g' E E2 ∧ MapV P kt num g' G2 E2.w ∧ Rep E2 r v' := by
  intro hq
  obtain ⟨us, ds, k1, k2, d', st', k3, k4⟩ := res_ok h1 h3 _ _ hq
  have hrep : Rep E' (oneD ds) (if h : us.toArray.size = 1 then us.toArray[0] else .tuple us.toArray) := by
   match ds, us, k2 with
   | [], [], _ => exact ⟨[], rfl, trivial⟩
   | [d], [u], ⟨q1, _⟩ => exact q1
   | d :: d2 :: ds, u :: u2 :: us, q => exact ⟨u :: u2 :: us, by simp, q⟩
  obtain ⟨E2, m1, m2, m3, m4, m5⟩ := k3 E' _ h1 rfl hrep
  obtain ⟨es, clock, q⟩ := hM1.obj
  refine ⟨h3.defers, _, ?_, _, E2, d', G', rfl, m1, by rw [m2]; exact k4, m3, ExtM.retell hc.len m1 m5 h2 q, by rw [m1]; exact hM1, m4⟩
  have hfun : (results fn a'.tmps) = (do let vs ← fn.results.mapM (resF a'.tmps); pure (if h : vs.size = 1 then vs[0] else .tuple vs)) := by
   unfold results
   congr 2
  rw [hfun, Array.mapM_eq_mapM_toList]
  simp only [Sem.run_bind, Sem.run_map, k1, Result.andThen_ok, Sem.run_pure]
 cases e <;> first
  | exact fin (resC_D hT _ _ hq)
  | exact hq.elim
theorem FnD_M {P : Program} {T : Unit → Tab} (hT : TabOk P (T ())) {H : Unit → Kn} (hH : SoundK P (H ())) (hm : P.follows .mixedOrders = true) (kt : TypeId) (num : Bool) {f : FuncId} {fn : Func} {c : Code} {N : Nat} {args : List DV} {st : Store} {R : DV → Store → Prop}
  (hf : P.funcs[f]? = some fn) (hb : fn.body = some c) (hN : fn.ntmps = N) (ha : args.length ≤ N)
  (h : ∀ (A : Ar) (X : Cps) (W : DV → Store → Prop) (B : Env) (I : Nat → Prop) (Y : Code → (Exit → SL → Store → MY → Prop) → SL → Store → MY → Prop), A = A0 → X = X0 P N → W = RetW st.length R → B.σ.length = B.st.length → B.st = st → (∀ g, B.w.heap.size ≤ g → I g) → Y = wpM P N B kt num I →
    wpMC T A X H N Y c (fun e s st _ => retC T A fn.results.toList W e s st) (initL 0 args) st none) : FnD P f args st R := by
 refine FnD_intro hf hb hN ha ?_
 intro E a hc hst hs
 have h1 := wpMC_ok hT hH hm hc.len _ _ _ _ _ (h A0 (X0 P N) _ E (fun g => E.w.heap.size ≤ g) _ rfl rfl rfl hc.len hst (fun _ h => h) rfl)
 refine wp_mono (h1 E a hc hst (hs.less (initL_initS args)) (Ext.refl E)) ?_
 rintro e a' w' ⟨l, E', y', rfl, hq, k1, k2, k4⟩
 have k3 : Ext E E' := by
  rcases y' with _ | ⟨g, G⟩
  ·exact k2
  ·exact k2.1.toE k2.2.2
 refine ⟨getS l, E', rfl, ?_, k1, k3, k4⟩
 cases e <;> first
  | exact resC_D hT _ _ hq
  | exact hq.elim
section
variable {P : Program} {T : Unit → Tab} (hT : TabOk P (T ())) {H : Unit → Kn} (hH : SoundK P (H ())) (hm : P.follows .mixedOrders = true) {N : Nat} {B : Env} (hB : B.σ.length = B.st.length) {kt : TypeId} {num : Bool} {I : Nat → Prop}
 {Q : Exit → SL → Store → MY → Prop} {s : SL} {st : Store} {y : MY} {A : Ar} {X : Cps} {Y : Code → (Exit → SL → Store → MY → Prop) → SL → Store → MY → Prop} (hA : A = A0) (hX : X = X0 P N) (hY : Y = wpM P N B kt num I)
include hB hY
theorem pauseM {c : Code} {s' : SL} {st' : Store} (ht : Told B.st.length s st s' st') (h : Y c Q s' st' y) : Y c Q s st y := by
 subst hY
 exact wpM_told hB ht h
include hX
include hT hH hm hA
theorem goM {c : Code} (h : wpC T A X H N c (fun e l st' => Q e l st' y) s st) : Y c Q s st y := by
 subst hA; subst hX; subst hY
 exact wpM_frame hB (wpC_ok hT hH hm _ _ _ _ h)
theorem loopM {c : Code} {ι : Type} (Inv : ι → Prop) (S : ι → SL) (ST : ι → Store) (F : ι → MY) (μ : ι → Nat) (x0 : ι) (h0 : Inv x0) (ht : Told B.st.length s st (S x0) (ST x0)) (hF : F x0 = y)
  (round : ∀ (R : SL → Store → MY → Prop) (x : ι), (R = fun s' st' y' => ∃ z, Inv z ∧ μ z < μ x ∧ F z = y' ∧ Told B.st.length s' st' (S z) (ST z)) → Inv x → wpMC T A X H N Y c (thenM R Q) (S x) (ST x) (F x)) : Y (.loop c) Q s st y := by
 subst hA; subst hX; subst hY; subst hF
 refine wpM_told hB ht ?_
 refine wpM_loop (fun n s1 st1 y1 => ∃ x, Inv x ∧ μ x = n ∧ s1 = S x ∧ st1 = ST x ∧ y1 = F x) (μ x0) ⟨x0, h0, rfl, rfl, rfl, rfl⟩ ?_ hB
 rintro n s1 st1 y1 ⟨x, hx, rfl, rfl, rfl, rfl⟩
 have h := wpMC_ok hT hH hm hB c _ _ _ _ (round _ x rfl hx)
 refine wpM_mono h ?_
 intro e l st' y' hq
 cases e <;> try exact hq
 obtain ⟨z, hz, hμ, rfl, htold⟩ := hq
 exact ⟨μ z, _, _, hμ, htold, z, hz, rfl, rfl, rfl, rfl⟩
variable {mt et : TypeId} (hK : Keyed P kt) (hmt : P.underlying mt = some (.map kt et)) (hz : ∃ i, P.info? et = some i ∧ i.zero = some (vzD num)) (ids : List Nat)
include hK hmt hz
theorem regMr {id : Nat} {ops : Array Oper} (h : ∀ C, C = GM0 P mt kt num B I → rowM T A X H C num ids N ops ops.toList s st y fun s' st' y' => Q .normal s' st' y') : Y (.region id ops false) Q s st y := by
 subst hY
 exact regionMr hT hH hB hK hmt hz hA hX h
end
end Go.Proofs.Ytadnpgkddgbhkaa
namespace Go.Proofs.Ytadnpgkddgbhkaa
open Go.RowKit Go.Maps
set_option linter.all false
theorem wpM_after {P : Program} {N : Nat} {B : Env} {kt : TypeId} {num : Bool} {I : Nat → Prop} {Q : Exit → SL → Store → MY → Prop} {s : SL} {st : Store} {y : MY} {c : Code} (hB : B.σ.length = B.st.length) (h : wpM P N B kt num I c (fun e l st' y' => ∃ s2 st2, Told B.st.length l st' s2 st2 ∧ Q e s2 st2 y') s st y) : wpM P N B kt num I c Q s st y := by
 intro E a hc hst hs hM
 refine wp_mono (h E a hc hst hs hM) ?_
 rintro e a' w' ⟨l, E', y', rfl, ⟨s2, st2, ht, hq⟩, h1, h2, h4⟩
 obtain ⟨E2, b1, b2, b3, b4, b5⟩ := ht E' N a' h1 rfl h4
 exact ⟨s2, E2, y', b1, by rw [b2]; exact hq, b3, h2.told hB b1 b5, b4⟩
section
variable {P : Program} {T : Unit → Tab} (hT : TabOk P (T ())) {H : Unit → Kn} (hH : SoundK P (H ())) (hm : P.follows .mixedOrders = true) {N : Nat} {B : Env} (hB : B.σ.length = B.st.length) {kt : TypeId} {num : Bool} {I : Nat → Prop}
 {Q : Exit → SL → Store → MY → Prop} {s : SL} {st : Store} {y : MY} {A : Ar} {X : Cps} {Y : Code → (Exit → SL → Store → MY → Prop) → SL → Store → MY → Prop} (hA : A = A0) (hX : X = X0 P N) (hY : Y = wpM P N B kt num I)
 {mt et : TypeId} (hK : Keyed P kt) (hmt : P.underlying mt = some (.map kt et)) (hz : ∃ i, P.info? et = some i ∧ i.zero = some (vzD num)) (ids : List Nat)
include hB hY hX hT hH hm hA hK hmt hz
theorem stepMa {id : Nat} {ops : Array Oper} (S2 : SL) (ST2 : Store) (y2 : MY) (h : ∀ C R, C = GM0 P mt kt num B I → (∀ s' st', Told B.st.length s' st' S2 ST2 → R s' st' y2) → anyM T A X H C num ids N ops R ops.size (Array.replicate ops.size false) s st y) (h2 : Q .normal S2 ST2 y2) : Y (.region id ops true) Q s st y := by
 subst hY
 refine wpM_after hB (regionMa (ids := ids) hT hH hB hK hmt hz hm hA hX fun C hC => ?_)
 exact h C _ hC fun s' st' ht => ⟨S2, ST2, ht, h2⟩
end
theorem FnM.ups {P : Program} {kt : TypeId} {num : Bool} {f : FuncId} {args args' : List DV} {st : Store} {g : Nat} {G : MapF} {R : DV → Store → MapF → Prop} (h : FnM P kt num f args' st g G R) (hu : ∀ (E : Env) (vs : List Value), Reps E args vs → Reps E args' vs) : FnM P kt num f args st g G R :=
 fun E vs h1 h2 h3 h4 => h E vs h1 h2 (hu E vs h3) h4
end Go.Proofs.Ytadnpgkddgbhkaa
namespace Go.Proofs.Ytadnpgkddgbhkaa
open Go.RowKit Go.Maps
set_option linter.all false
def spP (T : Unit → Tab) (A : Ar) (H : Unit → Kn) (N : Nat) (ops : Array Oper) : List Oper → SL → Store → (SL → Prop) → Prop
 | [], s, st, Q => Q s
 | o :: rest, s, st, Q => match dstB N o.dst, o.guard with
   | true, none => (match pvV T A H o.op s st with
     | some (ds, d) => allP ds (spP T A H N ops rest (putL o.dst d s) st Q)
     | none => False)
   | true, some (j, w) => (match slotOf ops j with
     | some k => (match getS s k with
       | .d (.sc (.bool t)) => brC t
         (fun _ => match w with
           | true => (match pvV T A H o.op s st with
             | some (ds, d) => allP ds (spP T A H N ops rest (putL o.dst d s) st Q)
             | none => False)
           | false => spP T A H N ops rest (putL o.dst (.d (.sc (.tuple #[]))) s) st Q)
         (fun _ => match w with
           | false => (match pvV T A H o.op s st with
             | some (ds, d) => allP ds (spP T A H N ops rest (putL o.dst d s) st Q)
             | none => False)
           | true => spP T A H N ops rest (putL o.dst (.d (.sc (.tuple #[]))) s) st Q)
       | .d (.sc (.tuple _)) => spP T A H N ops rest (putL o.dst (.d (.sc (.tuple #[]))) s) st Q
       | _ => False)
     | none => False)
   | false, _ => False
theorem spP_pure {P : Program} {T : Unit → Tab} (hT : TabOk P (T ())) {H : Unit → Kn} (hH : SoundK P (H ())) {N : Nat} {ops : Array Oper} {st : Store} {Q : SL → Prop} : ∀ (l : List Oper) (s : SL), spP T A0 H N ops l s st Q → pureL P N ops st (fun s' => ∃ l, getS l = s' ∧ Q l) l (getS s)
 | [], s, h => ⟨s, rfl, h⟩
 | o :: rest, s, h => by
     have run : dstB N o.dst = true → wantedD ops o.guard (getS s) = some true → (match pvV T A0 H o.op s st with
       | some (ds, d) => allP ds (spP T A0 H N ops rest (putL o.dst d s) st Q)
       | none => False) → pureL P N ops st (fun s' => ∃ l, getS l = s' ∧ Q l) (o :: rest) (getS s) := fun hd hw h => by
      split at h
      ·rename_i ds d hv
       rw [allP_iff] at h
       have := spP_pure hT hH rest _ h.2
       rw [getS_putL] at this
       exact ⟨d, .inl ⟨hw, fun K hK => pvV_D hT hH hv h.1 hK⟩, dstB_ok hd, this⟩
      ·exact h.elim
     have skip : dstB N o.dst = true → wantedD ops o.guard (getS s) = some false → spP T A0 H N ops rest (putL o.dst (.d (.sc (.tuple #[]))) s) st Q → pureL P N ops st (fun s' => ∃ l, getS l = s' ∧ Q l) (o :: rest) (getS s) := fun hd hw h => by
      have := spP_pure hT hH rest _ h
      rw [getS_putL] at this
      exact ⟨_, .inr ⟨hw, rfl⟩, dstB_ok hd, this⟩
     unfold spP at h
     split at h
     ·rename_i hd hg
      exact run hd (by rw [hg]; rfl) h
     ·rename_i j w hd hg
      split at h
      ·rename_i k hk
       split at h
       ·rename_i t ht
        have hwant : wantedD ops o.guard (getS s) = some (t == w) := by
         rw [hg]
         simp only [wantedD, hk, ht]
        cases t <;> cases w <;> simp only [brC] at h
        ·exact run hd hwant h
        ·exact skip hd hwant h
        ·exact skip hd hwant h
        ·exact run hd hwant h
       ·rename_i vs ht
        exact skip hd (by rw [hg]; simp only [wantedD, hk, ht]) h
       ·exact h.elim
      ·exact h.elim
     ·exact h.elim
def marksB (ops : Array Oper) (z : Nat) : List Nat := (List.range (z + 1)).reverse.foldl (fun m j => if m.contains j then (match ops[j]? with
 | some o => m ++ (o.after.toList.filter (Region.binds .any)).map (·.on)
 | none => m) else m) [z]
theorem marks_spec {ops : Array Oper} {z : Nat} {listed : Array Bool} (hcl : Clo ops listed) (hz : z ∈ Region.ready .any ops listed) : ∀ i ∈ marksB ops z, i = z ∨ listed.getD i false = true := by
 obtain ⟨_, oz, hoz, hall⟩ := mem_ready.1 hz
 unfold marksB
 generalize (List.range (z + 1)).reverse = js
 have key : ∀ (js m : List Nat), (∀ i ∈ m, i = z ∨ listed.getD i false = true) → ∀ i ∈ js.foldl (fun m j => if m.contains j then (match ops[j]? with
   | some o => m ++ (o.after.toList.filter (Region.binds .any)).map (·.on)
   | none => m) else m) m, i = z ∨ listed.getD i false = true := by
  intro js
  induction js with
  | nil => exact fun m h => h
  | cons j js ih =>
    intro m h
    refine ih _ ?_
    intro i hi
    simp only at hi
    split at hi
    ·rename_i hj
     have hj2 : j ∈ m := by simpa using hj
     split at hi
     ·rename_i o ho
      rcases List.mem_append.1 hi with hi | hi
      ·exact h i hi
      ·obtain ⟨e, he, rfl⟩ := List.mem_map.1 hi
       obtain ⟨he1, he2⟩ := List.mem_filter.1 he
       rcases h j hj2 with rfl | hl
       ·rw [hoz] at ho; cases ho
        exact .inr (hall e (by simpa using he1) he2)
       ·exact .inr (hcl j o hl ho e (by simpa using he1) he2)
     ·exact h i hi
    ·exact h i hi
 exact key js [z] (by simp)
def waitsT (ops : Array Oper) (z : Nat) : Bool := (List.range z).all fun i => (marksB ops z).contains i
theorem waitsT_spec {ops : Array Oper} {z : Nat} (h : waitsT ops z = true) {i : Nat} (hi : i < z) {listed : Array Bool} (hcl : Clo ops listed) (hl : listed.getD i false = false) : z ∉ Region.ready .any ops listed := by
 intro hz
 simp only [waitsT, List.all_eq_true, List.mem_range] at h
 rcases marks_spec hcl hz i (by simpa using h i hi) with rfl | h1
 ·omega
 ·rw [h1] at hl; cases hl
def anyW (P : Program) (N : Nat) (ops : Array Oper) (st : Store) (z : Nat) (K : Slots → Prop) : Nat → Array Bool → Slots → Prop
 | 0, listed, s => Region.ready .any ops listed = [z] ∧ Region.ready .any ops (listed.setIfInBounds z true) = [z + 1] ∧ Region.ready .any ops ((listed.setIfInBounds z true).setIfInBounds (z + 1) true) = [] ∧ K s
 | fuel + 1, listed, s => Region.ready .any ops listed ≠ [] ∧ ∀ i ∈ Region.ready .any ops listed, ∀ o, ops[i]? = some o → ∃ d, Yld P ops o s st d ∧ dstOk N o.dst ∧ anyW P N ops st z K fuel (listed.setIfInBounds i true) (putS o.dst d s)
theorem anyW_first {P : Program} {N : Nat} {ops : Array Oper} {st : Store} {z : Nat} {K : Slots → Prop} (hw : waitsT ops z = true) {i : Nat} (hiz : i < z) {oi : Oper} {d : DV} (hi : ops[i]? = some oi) : ∀ (fuel : Nat) (listed : Array Bool) (s : Slots), Clo ops listed →
  (∀ j oj, ops[j]? = some oj → j ≠ i → listed.getD j true = false → (∀ e ∈ oj.after, Region.binds .any e = true → e.on ≠ i) → oi.apart ops oj = true) →
  i ∈ Region.ready .any ops listed → Yld P ops oi s st d → dstOk N oi.dst → anyW P N ops st z K fuel (listed.setIfInBounds i true) (putS oi.dst d s) → anyW P N ops st z K (fuel + 1) listed s := by
 intro fuel
 induction fuel with
 | zero =>
   intro listed s hcl _ hr hy hd H
   refine ⟨fun h => (by rw [h] at hr; cases hr), fun j hj oj hoj => ?_⟩
   by_cases hji : j = i
   ·subst hji
    rw [hi] at hoj; cases hoj
    exact ⟨d, hy, hd, H⟩
   ·have h1 := ready_mono hj hji
    rw [H.1] at h1
    have hjz : j = z := by simpa using h1
    subst hjz
    have hl : listed.getD i false = false := by
     have := (mem_ready.1 hr).1
     rcases Nat.lt_or_ge i listed.size with h' | h'
     ·simpa [h'] using this
     ·simp [Array.getElem?_eq_none h']
    exact absurd hj (waitsT_spec hw hiz hcl hl)
 | succ fuel ih =>
   intro listed s hcl hfree hr hy hd H
   refine ⟨fun h => (by rw [h] at hr; cases hr), fun j hj oj hoj => ?_⟩
   by_cases hji : j = i
   ·subst hji
    rw [hi] at hoj; cases hoj
    exact ⟨d, hy, hd, H⟩
   ·obtain ⟨dj, hyj, hdj, hK⟩ := H.2 j (ready_mono hj hji) oj hoj
    obtain ⟨hjun, oj', hoj', hall⟩ := mem_ready.1 hj
    rw [hoj] at hoj'; cases hoj'
    have hnot : ∀ e ∈ oj.after, Region.binds .any e = true → e.on ≠ i := fun e he hb heq => by
     have h1 := hall e he hb
     have h0 := (mem_ready.1 hr).1
     rw [heq] at h1
     rcases Nat.lt_or_ge i listed.size with h' | h'
     ·simp [h'] at h0 h1; rw [h0] at h1; cases h1
     ·simp [Array.getElem?_eq_none h'] at h1
    obtain ⟨a1, a2, a3⟩ := Oper.apart_spec (hfree j oj hoj hji hjun hnot)
    have hfree' : ∀ k ok, ops[k]? = some ok → k ≠ i → (listed.setIfInBounds j true).getD k true = false →
      (∀ e ∈ ok.after, Region.binds .any e = true → e.on ≠ i) → oi.apart ops ok = true := fun k ok hk hki hun hno => by
     refine hfree k ok hk hki ?_ hno
     by_cases hjk : j = k
     ·subst hjk; exact hjun
     ·rw [getD_set_ne true hjk] at hun; exact hun
    refine ⟨dj, (Yld.put a1).1 hyj, hdj, ih (listed.setIfInBounds j true) _ (hcl.set hj) hfree' (ready_mono hr (Ne.symm hji)) ((Yld.put a3).2 hy) hd ?_⟩
    rw [Array.setIfInBounds_comm _ _ hji, ← putS_comm a2]
    exact hK
def lexW (ops : Array Oper) (z : Nat) : Nat → Nat → Array Bool → Bool
 | 0, _, listed => (Region.ready .any ops listed == [z]) && (Region.ready .any ops (listed.setIfInBounds z true) == [z + 1]) && (Region.ready .any ops ((listed.setIfInBounds z true).setIfInBounds (z + 1) true)).isEmpty
 | fuel + 1, k, listed => decide (k < z) && (Region.ready .any ops listed).contains k && Region.free .any ops listed k && lexW ops z fuel (k + 1) (listed.setIfInBounds k true)
theorem anyW_lex {P : Program} {N : Nat} {ops : Array Oper} {st : Store} {z : Nat} {K : Slots → Prop} (hw : waitsT ops z = true) : ∀ (l : List Oper) (k : Nat) (listed : Array Bool) (s : Slots), Clo ops listed → (∀ j, j < l.length → l[j]? = ops[k + j]?) →
  lexW ops z l.length k listed = true → pureL P N ops st K l s → anyW P N ops st z K l.length listed s
 | [], k, listed, s, _, _, hB, h => by
     simp only [List.length_nil, lexW, Bool.and_eq_true, beq_iff_eq, List.isEmpty_iff] at hB
     exact ⟨hB.1.1, hB.1.2, hB.2, h⟩
 | o :: l, k, listed, s, hcl, hl, hB, h => by
   have h0 : ops[k]? = some o := by simpa using (hl 0 (by simp)).symm
   simp only [List.length_cons, lexW, Bool.and_eq_true, decide_eq_true_eq] at hB
   obtain ⟨⟨⟨hk, hr⟩, hf⟩, hB'⟩ := hB
   obtain ⟨d, hy, hd, hK⟩ := h
   exact anyW_first hw hk h0 l.length listed s hcl (Region.free_spec h0 hf) (by simpa using hr) hy hd
    (anyW_lex hw l (k + 1) _ _ (hcl.set (by simpa using hr)) (fun j hj => by have := hl (j + 1) (by simpa using hj); simpa [Nat.add_assoc, Nat.add_comm 1 j] using this) hB' hK)
section
variable {P : Program} {T : Unit → Tab} (hT : TabOk P (T ())) {H : Unit → Kn} (hH : SoundK P (H ())) {N : Nat} {B : Env} (hB : B.σ.length = B.st.length) {mt kt et : TypeId} {num : Bool} {I : Nat → Prop} {ids : List Nat}
 (hK : Keyed P kt) (hmt : P.underlying mt = some (.map kt et)) (hz : ∃ i, P.info? et = some i ∧ i.zero = some (vzD num))
include hT hH hB hK hmt hz
theorem rowM_step {ops : Array Oper} {o : Oper} {rest : List Oper} {s : SL} {E : Env} {a : Act} {y : MY} {K : SL → Store → MY → Prop} (hc : Conc E) (hs : SlotsOk E N (getS s) a) (hM : MapY P kt num I B E y) (h : rowM T A0 (X0 P N) H (GM0 P mt kt num B I) num ids N ops (o :: rest) s E.st y K) {next : Act → World → Prop} {Q : Exit → Act → World → Prop}
  (hn : ∀ (s' : SL) (a' : Act) (E' : Env) (y' : MY), rowM T A0 (X0 P N) H (GM0 P mt kt num B I) num ids N ops rest s' E'.st y' K → Conc E' → MapY P kt num I B E' y' → SlotsOk E' N (getS s') a' → next a' E'.w) :
  if Region.wanted o (yielded ops a.tmps) then o.wp P a E.w next Q ∨ (o.asks P a E.w ∧ LetsOut Q) else next (a.put o.dst undef) E.w := by
 have run : ∀ s2 : SL, getS s2 = getS s → dstB N o.dst = true → wantedD ops o.guard (getS s) = some true → (opM T A0 (X0 P N) H (GM0 P mt kt num B I) num ids o.op s2 E.st y fun d st' y' => rowM T A0 (X0 P N) H (GM0 P mt kt num B I) num ids N ops rest (putL o.dst d s2) st' y' K) → if Region.wanted o (yielded ops a.tmps) then o.wp P a E.w next Q ∨ (o.asks P a E.w ∧ LetsOut Q) else next (a.put o.dst undef) E.w := fun s2 h2 hd hw h => by
  rw [if_pos (wantedD_spec hs hw)]
  rw [← h2] at hs
  refine .inl (opM_ok hT hH hB hK hmt hz hc hs hM o h fun d v E' y' k1 k2 k3 k4 k5 => ?_)
  refine hn _ _ E' y' k1 k2 k3 ?_
  rw [getS_putL]
  exact k4.putS (dstB_ok hd) k5
 have skip : ∀ s2 : SL, getS s2 = getS s → dstB N o.dst = true → wantedD ops o.guard (getS s) = some false → rowM T A0 (X0 P N) H (GM0 P mt kt num B I) num ids N ops rest (putL o.dst (.d (.sc (.tuple #[]))) s2) E.st y K → if Region.wanted o (yielded ops a.tmps) then o.wp P a E.w next Q ∨ (o.asks P a E.w ∧ LetsOut Q) else next (a.put o.dst undef) E.w := fun s2 h2 hd hw h => by
  rw [wantedD_spec hs hw, if_neg (by simp)]
  refine hn _ _ E y h hc hM ?_
  rw [getS_putL, h2]
  exact hs.putS (dstB_ok hd) rfl
 unfold rowM at h
 split at h
 ·rename_i hd hg
  exact run s rfl hd (by rw [hg]; rfl) h
 ·rename_i j w hd hg
  split at h
  ·rename_i k hk
   split at h
   ·rename_i t ht
    have hwant : wantedD ops o.guard (getS s) = some (t == w) := by
     rw [hg]
     simp only [wantedD, hk, ht]
    cases t <;> cases w <;> simp only [brC] at h
    ·exact run _ (getS_same ht) hd hwant h
    ·exact skip _ (getS_same ht) hd hwant h
    ·exact skip _ (getS_same ht) hd hwant h
    ·exact run _ (getS_same ht) hd hwant h
   ·rename_i vs ht
    exact skip s rfl hd (by rw [hg]; simp only [wantedD, hk, ht]) h
   ·exact h.elim
  ·exact h.elim
 ·exact h.elim
theorem anyW_ok {ops : Array Oper} {Q : Exit → Act → World → Prop} {z : Nat} {oc op : Oper} (hoc : ops[z]? = some oc) (hop : ops[z + 1]? = some op) {st : Store} {y : MY} {R : SL → Store → MY → Prop}
  (hR : ∀ (s' : SL) (a' : Act) (E' : Env) (y' : MY), R s' E'.st y' → Conc E' → MapY P kt num I B E' y' → SlotsOk E' N (getS s') a' → Q .normal a' E'.w) :
  ∀ (fuel : Nat) (listed : Array Bool) (s : Slots) (E : Env) (a : Act), Conc E → E.st = st → SlotsOk E N s a → MapY P kt num I B E y → anyW P N ops st z (fun s' => ∃ l, getS l = s' ∧ rowM T A0 (X0 P N) H (GM0 P mt kt num B I) num ids N ops [oc, op] l st y R) fuel listed s → wpAny P .any ops Q (fuel + 2) listed a E.w
 | 0, listed, s, E, a, hc, hst, hs, hM, ⟨h1, h2, h3, sl, hsl, h4⟩ => by
    subst hst
    rw [← hsl] at hs
    refine ⟨fun h0 => (by rw [h1] at h0; cases h0), fun i hi => ?_⟩
    rw [h1] at hi
    have : i = z := by simpa using hi
    subst this
    unfold wpOp
    simp only [hoc]
    refine rowM_step hT hH hB hK hmt hz hc hs hM h4 fun s2 a2 E2 y2 k1 k2 k3 k4 => ?_
    refine ⟨fun h0 => (by rw [h2] at h0; cases h0), fun j hj => ?_⟩
    rw [h2] at hj
    have : j = i + 1 := by simpa using hj
    subst this
    unfold wpOp
    simp only [hop]
    refine rowM_step hT hH hB hK hmt hz k2 k4 k3 k1 fun s3 a3 E3 y3 q1 q2 q3 q4 => ?_
    exact ⟨h3, hR s3 a3 E3 y3 q1 q2 q3 q4⟩
 | fuel + 1, listed, s, E, a, hc, hst, hs, hM, h => by
    refine ⟨fun h0 => absurd h0 h.1, fun i hi => ?_⟩
    obtain ⟨o, ho⟩ := ready_some hi
    obtain ⟨d, hy, hd, hK⟩ := h.2 i hi o ho
    unfold wpOp
    simp only [ho]
    have hstep : stepD P N ops o s E.st fun s' st' => s' = putS o.dst d s ∧ st' = st := by
     rw [hst]
     rcases hy with ⟨hw, hy⟩ | ⟨hw, rfl⟩
     ·simp only [stepD, hw]
      exact ⟨hd, hy _ ⟨rfl, rfl⟩⟩
     ·simp only [stepD, hw]
      exact ⟨hd, by first | exact ⟨rfl, rfl⟩ | trivial | simp⟩
    exact step_ok (P := P) (Q := Q) (ops := ops) (next := wpAny P .any ops Q (fuel + 2) (listed.setIfInBounds i true)) hc hs o hstep fun s' a' E' hk h1 h2 h3 => by
     obtain ⟨rfl, hk2⟩ := hk
     exact anyW_ok hoc hop hR fuel _ _ E' a' h1 hk2 h3 (hM.ext hB hc h2) hK
end
def but2 {α : Type} (l : List α) : List α := l.take (l.length - 2)
def last2 {α : Type} (l : List α) : List α := l.drop (l.length - 2)
def callB2 (ops : Array Oper) : Bool := decide (2 ≤ ops.size) && waitsT ops (ops.size - 2) && lexW ops (ops.size - 2) (ops.size - 2) 0 (Array.replicate ops.size false)
section
variable {P : Program} {T : Unit → Tab} (hT : TabOk P (T ())) {H : Unit → Kn} (hH : SoundK P (H ())) (hm : P.follows .mixedOrders = true) {N : Nat} {B : Env} (hB : B.σ.length = B.st.length) {kt : TypeId} {num : Bool} {I : Nat → Prop}
 {Q : Exit → SL → Store → MY → Prop} {s : SL} {st : Store} {y : MY} {A : Ar} {X : Cps} {Y : Code → (Exit → SL → Store → MY → Prop) → SL → Store → MY → Prop} (hA : A = A0) (hX : X = X0 P N) (hY : Y = wpM P N B kt num I)
 {mt et : TypeId} (hK : Keyed P kt) (hmt : P.underlying mt = some (.map kt et)) (hz : ∃ i, P.info? et = some i ∧ i.zero = some (vzD num)) (ids : List Nat)
include hB hY hX hT hH hm hA hK hmt hz
theorem regMw {id : Nat} {ops : Array Oper} (hw : callB2 ops = true) (h : ∀ C, C = GM0 P mt kt num B I → spP T A H N ops (but2 ops.toList) s st fun sp => rowM T A X H C num ids N ops (last2 ops.toList) sp st y fun s' st' y' => Q .normal s' st' y') : Y (.region id ops true) Q s st y := by
 subst hY; subst hA; subst hX
 obtain ⟨l⟩ := ops
 simp only [callB2, Bool.and_eq_true, decide_eq_true_eq, List.size_toArray] at hw
 obtain ⟨⟨h2, hw1⟩, hw2⟩ := hw
 have hlen : (but2 l).length = l.length - 2 := by simp [but2]
 have h1 := spP_pure hT hH (but2 l) s (h _ rfl)
 have hl2 : (last2 l).length = 2 := by
  unfold last2
  rw [List.length_drop]
  omega
 have two : ∀ q : List Oper, q.length = 2 → ∃ a b, q = [a, b] := by
  intro q hq
  rcases q with _ | ⟨a, _ | ⟨b, _ | ⟨c, q⟩⟩⟩
  ·simp at hq
  ·simp at hq
  ·exact ⟨a, b, rfl⟩
  ·simp at hq
 obtain ⟨oc, op, hlast⟩ := two _ hl2
 have hoc : l.toArray[l.length - 2]? = some oc := by
  have : (last2 l)[0]? = some oc := by rw [hlast]; rfl
  rw [last2, List.getElem?_drop] at this
  simpa using this
 have hop : l.toArray[l.length - 2 + 1]? = some op := by
  have : (last2 l)[1]? = some op := by rw [hlast]; rfl
  rw [last2, List.getElem?_drop] at this
  simpa using this
 intro E a hc hst hs hM
 subst hst
 obtain ⟨c1, c2⟩ := newNone hc { E.w with drawn := E.w.drawn + 1 } (Nat.le_refl _) (fun _ _ => rfl) rfl rfl rfl
 refine wp_region_any hm ?_
 rw [show l.toArray.size = (but2 l).length + 2 from by rw [hlen]; simp; omega]
 simp only [hlast] at h1
 rw [← hlen] at hw1 hw2 hoc hop
 refine anyW_ok hT hH hB hK hmt hz hoc hop (R := fun s' st' y' => Q .normal s' st' y') (fun s' a' E' y' k1 k2 k3 k4 => ⟨s', E', y', rfl, k1, k2, k3, k4⟩) _ _ _ ⟨{ E.w with drawn := E.w.drawn + 1 }, E.S, E.σ, E.st⟩ a c1 rfl (hs.ext hc c2) (hM.ext hB hc c2) (anyW_lex hw1 (but2 l) 0 _ _ (fun j o hj => by simp [Array.getElem?_replicate] at hj; split at hj <;> simp at hj) ?_ ?_ h1)
 ·intro j hj
  rw [List.getElem?_toArray, Nat.zero_add, but2, List.getElem?_take, if_pos (by rw [← hlen]; exact hj)]
 ·rw [show l.length = (but2 l).length + 2 from by rw [hlen]; omega] at hw2
  exact hw2
end
end Go.Proofs.Ytadnpgkddgbhkaa
