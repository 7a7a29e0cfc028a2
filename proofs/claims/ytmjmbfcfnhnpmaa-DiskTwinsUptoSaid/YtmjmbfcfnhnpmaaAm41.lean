/- The program logic, forty-first part: regions in any order whose orders are told apart: which one of two operations comes first. No condition: lemmas of any program. -/
import Derived.Test.YtmjmbfcfnhnpmaaAm40
namespace Go.Proofs.Ytmjmbfcfnhnpmaa
open Go.RowKit
set_option linter.all false

/-- An order of a region's operations, each one ready when it comes. -/
def Valid (ops : Array Oper) : Nat → Array Bool → List Nat → Prop
  | 0, _, o => o = []
  | f + 1, L, o => (o = [] ∧ Region.ready .any ops L = []) ∨ ∃ i rest, o = i :: rest ∧ i ∈ Region.ready .any ops L ∧ Valid ops f (L.setIfInBounds i true) rest
theorem valid_lin (ops : Array Oper) : ∀ (f t : Nat) (L : Array Bool), Valid ops f L (Region.linearise.go .any ops f t L [])
  | 0, t, L => rfl
  | f + 1, t, L => by
      simp only [Region.linearise.go]
      change Valid ops (f + 1) L (match (Region.ready .any ops L)[t % (Region.ready .any ops L).length]? with
        | some i => Region.linearise.go .any ops f (t / (Region.ready .any ops L).length) (L.setIfInBounds i true) [i]
        | none => [].reverse)
      cases hi : (Region.ready .any ops L)[t % (Region.ready .any ops L).length]? with
      | none =>
        refine .inl ⟨rfl, ?_⟩
        cases hr : Region.ready .any ops L with
        | nil => rfl
        | cons x xs =>
          rw [hr] at hi
          have hlt : t % (x :: xs).length < (x :: xs).length := Nat.mod_lt _ (by simp)
          simp at hi
          simp at hlt
          omega
      | some i =>
        simp only []
        rw [linearise_go_acc, List.reverse_singleton, List.singleton_append]
        exact .inr ⟨i, _, rfl, List.mem_of_getElem? hi, valid_lin ops f _ _⟩
theorem any_valid {P : Program} {ops : Array Oper} {Q : Exit → Act → World → Prop} : ∀ (f : Nat) (L : Array Bool) (o : List Nat) (a : Act) (w : World), wpAny P .any ops Q f L a w → Valid ops f L o → wpOps P ops Q o a w
  | 0, L, o, a, w, h, hv => by
      have e : o = [] := hv
      subst e
      simpa [wpOps] using h.2
  | f + 1, L, o, a, w, h, hv => by
      rcases hv with ⟨rfl, h0⟩ | ⟨i, rest, rfl, hi, hv⟩
      · simpa [wpOps] using h.1 h0
      · rw [wpOps_cons]
        exact wpOp_mono (fun a w h2 => any_valid f _ rest a w h2 hv) (h.2 i hi)

/-- The operations in another order, with more edges. -/
def renO (σ : Nat → Nat) (ex : List (Nat × Nat)) (i : Nat) (o : Oper) : Oper :=
  { o with after := ((o.after.toList.map fun e : Edge => (⟨σ e.on, e.ground⟩ : Edge)) ++ (ex.filter fun p : Nat × Nat => p.2 == i).map fun p : Nat × Nat => (⟨σ p.1, .data⟩ : Edge)).toArray, guard := match o.guard with
    | none => none
    | some (g, b) => some (σ g, b) }
def permL (π : List Nat) (ex : List (Nat × Nat)) (ops : Array Oper) : List Nat → List Oper
  | [] => []
  | i :: is => match ops[i]? with
    | some o => renO (fun j => π.idxOf j) ex i o :: permL π ex ops is
    | none => permL π ex ops is
def permE (π : List Nat) (ex : List (Nat × Nat)) (ops : Array Oper) : Array Oper := (permL π ex ops π).toArray
def permB (π : List Nat) (n : Nat) : Bool := π.length == n && (π.all fun i => decide (i < n)) && ((List.range n).all fun i => decide (π.idxOf i < n) && π[π.idxOf i]? == some i) && ((List.range n).all fun k => match π[k]? with
  | some i => π.idxOf i == k
  | none => false)
structure PermOK (π : List Nat) (n : Nat) : Prop where
  len : π.length = n
  lt : ∀ i ∈ π, i < n
  to : ∀ i, i < n → π.idxOf i < n ∧ π[π.idxOf i]? = some i
  back : ∀ k, k < n → ∃ i, π[k]? = some i ∧ i < n ∧ π.idxOf i = k
  out : ∀ i, n ≤ i → π.idxOf i = n
theorem permB_ok {π : List Nat} {n : Nat} (h : permB π n = true) : PermOK π n := by
  simp only [permB, Bool.and_eq_true, beq_iff_eq, List.all_eq_true, decide_eq_true_eq, List.mem_range] at h
  obtain ⟨⟨⟨h1, h2⟩, h3⟩, h4⟩ := h
  refine ⟨h1, h2, h3, fun k hk => ?_, fun i hi => ?_⟩
  · have := h4 k hk
    cases hp : π[k]? with
    | none => rw [hp] at this; cases this
    | some i =>
      rw [hp] at this
      simp only [beq_iff_eq] at this
      exact ⟨i, rfl, h2 i (List.mem_of_getElem? hp), this⟩
  · have hn : i ∉ π := fun hm => by have := h2 i hm; omega
    rw [← h1]
    exact List.idxOf_eq_length hn
theorem permL_get {π : List Nat} {ex : List (Nat × Nat)} {ops : Array Oper} : ∀ (is : List Nat), (∀ i ∈ is, i < ops.size) → ∀ k : Nat, (permL π ex ops is)[k]? = (is[k]?).bind fun i => (ops[i]?).map (renO (fun j => π.idxOf j) ex i)
  | [], _, k => by simp [permL]
  | i :: is, h, k => by
      have hi : i < ops.size := h i (by simp)
      have ih := permL_get (π := π) (ex := ex) (ops := ops) is (fun j hj => h j (by simp [hj]))
      have ho : ops[i]? = some ops[i] := Array.getElem?_eq_getElem hi
      unfold permL
      rw [ho]
      cases k with
      | zero => simp [ho]
      | succ k => simp [ih k]
section perm
variable {P : Program} {ops : Array Oper} {Q : Exit → Act → World → Prop} {π : List Nat} {ex : List (Nat × Nat)} (hp : PermOK π ops.size)
include hp
theorem perm_at {i : Nat} (hi : i < ops.size) : (permE π ex ops)[π.idxOf i]? = (ops[i]?).map (renO (fun j => π.idxOf j) ex i) := by
  have h1 := (hp.to i hi).2
  simp only [permE, List.getElem?_toArray]
  rw [permL_get π hp.lt, h1]
  rfl
theorem perm_size : (permE π ex ops).size = ops.size := by
  have h1 : ∀ k : Nat, (permE π ex ops)[k]? = (π[k]?).bind fun i => (ops[i]?).map (renO (fun j => π.idxOf j) ex i) := fun k => by
    have e := permL_get (π := π) (ex := ex) (ops := ops) π hp.lt k
    rw [← e]
    exact List.getElem?_toArray
  have h2 : ∀ k, k < ops.size → k < (permE π ex ops).size := fun k hk => by
    obtain ⟨i, e, hi, _⟩ := hp.back k hk
    have := h1 k
    rw [e, Option.bind_some, Array.getElem?_eq_getElem hi] at this
    exact (Array.getElem?_eq_some_iff.1 this).1
  have h3 : ∀ k, k < (permE π ex ops).size → k < ops.size := fun k hk => by
    rcases Nat.lt_or_ge k ops.size with h | h
    · exact h
    · have := h1 k
      rw [List.getElem?_eq_none (by rw [hp.len]; exact h), Option.bind_none, Array.getElem?_eq_getElem hk] at this
      cases this
  rcases Nat.lt_trichotomy (permE π ex ops).size ops.size with h | h | h
  · have := h2 _ h; omega
  · exact h
  · have := h3 _ h; omega
theorem perm_yield (tmps : Array Value) (g : Nat) : yielded (permE π ex ops) tmps (π.idxOf g) = yielded ops tmps g := by
  unfold yielded
  rcases Nat.lt_or_ge g ops.size with h | h
  · rw [perm_at hp h]
    cases ops[g]? <;> rfl
  · rw [hp.out g h, Array.getElem?_eq_none h, Array.getElem?_eq_none (by rw [perm_size hp]; exact Nat.le_refl _)]
theorem perm_op {i : Nat} (hi : i < ops.size) (K : Act → World → Prop) (a : Act) (w : World) : wpOp P (permE π ex ops) Q (π.idxOf i) K a w = wpOp P ops Q i K a w := by
  unfold wpOp
  rw [perm_at hp hi]
  have ho : ops[i]? = some ops[i] := Array.getElem?_eq_getElem hi
  rw [ho]
  simp only [Option.map_some]
  generalize ops[i] = o
  obtain ⟨dst, op, ty, pos, after, guard⟩ := o
  have hw : Region.wanted (renO (fun j => π.idxOf j) ex i ⟨dst, op, ty, pos, after, guard⟩) (yielded (permE π ex ops) a.tmps) = Region.wanted ⟨dst, op, ty, pos, after, guard⟩ (yielded ops a.tmps) := by
    unfold Region.wanted renO
    cases guard with
    | none => rfl
    | some p =>
      obtain ⟨g, b⟩ := p
      simp only
      rw [perm_yield hp]
  rw [hw]
  rfl
theorem perm_ops : ∀ (o : List Nat), (∀ i ∈ o, i < ops.size) → ∀ (a : Act) (w : World), wpOps P (permE π ex ops) Q (o.map fun i => π.idxOf i) a w → wpOps P ops Q o a w
  | [], _, a, w, h => h
  | i :: o, hi, a, w, h => by
      rw [List.map_cons, wpOps_cons, perm_op hp (hi i (by simp))] at h
      rw [wpOps_cons]
      exact wpOp_mono (fun a w h2 => perm_ops o (fun j hj => hi j (by simp [hj])) a w h2) h
end perm
theorem valid_lt {ops : Array Oper} : ∀ (f : Nat) (L : Array Bool) (o : List Nat), Valid ops f L o → ∀ i ∈ o, i < ops.size
  | 0, L, o, h, i, hi => by have e : o = [] := h; subst e; cases hi
  | f + 1, L, o, h, i, hi => by
      rcases h with ⟨rfl, _⟩ | ⟨j, rest, rfl, hj, hv⟩
      · cases hi
      · rcases List.mem_cons.1 hi with rfl | hi
        · obtain ⟨o, ho⟩ := ready_some hj
          exact (Array.getElem?_eq_some_iff.1 ho).1
        · exact valid_lt f _ _ hv i hi
/-- The order keeps the edges. -/
def Resp (ex : List (Nat × Nat)) : Array Bool → List Nat → Prop
  | _, [] => True
  | L, i :: rest => (∀ p ∈ ex, p.2 = i → L.getD p.1 false = true) ∧ Resp ex (L.setIfInBounds i true) rest
theorem resp_nil : ∀ (L : Array Bool) (o : List Nat), Resp [] L o
  | _, [] => trivial
  | L, i :: o => ⟨by simp, resp_nil _ o⟩
theorem resp_cons {p : Nat × Nat} {ex : List (Nat × Nat)} : ∀ {L : Array Bool} {o : List Nat}, Resp [p] L o → Resp ex L o → Resp (p :: ex) L o
  | _, [], _, _ => trivial
  | L, i :: o, h, g => ⟨fun q hq e => by
      rcases List.mem_cons.1 hq with rfl | hq
      · exact h.1 _ (by simp) e
      · exact g.1 q hq e, resp_cons h.2 g.2⟩
theorem resp_listed {x y : Nat} : ∀ {L : Array Bool} {o : List Nat}, L.getD x false = true → Resp [(x, y)] L o
  | _, [], _ => trivial
  | L, i :: o, h => ⟨fun p hp _ => by rw [List.mem_singleton] at hp; subst hp; exact h, resp_listed (getD_set h)⟩
theorem resp_split {ops : Array Oper} {x y : Nat} (hne : x ≠ y) : ∀ (f : Nat) (L : Array Bool) (o : List Nat), L.size = ops.size → Valid ops f L o → Resp [(x, y)] L o ∨ Resp [(y, x)] L o
  | 0, L, o, hs, h => by have e : o = [] := h; subst e; exact .inl trivial
  | f + 1, L, o, hs, h => by
      rcases h with ⟨rfl, _⟩ | ⟨i, rest, rfl, hi, hv⟩
      · exact .inl trivial
      · have hlt : i < L.size := by
          obtain ⟨o, ho⟩ := ready_some hi
          rw [hs]
          exact (Array.getElem?_eq_some_iff.1 ho).1
        have hset : (L.setIfInBounds i true).getD i false = true := by
          simp [Array.getD_eq_getD_getElem?, Array.getElem?_setIfInBounds, hlt]
        by_cases h1 : i = x
        · subst h1
          refine .inl ⟨fun p hp e => ?_, resp_listed hset⟩
          rw [List.mem_singleton] at hp
          subst hp
          exact absurd e.symm hne
        · by_cases h2 : i = y
          · subst h2
            refine .inr ⟨fun p hp e => ?_, resp_listed hset⟩
            rw [List.mem_singleton] at hp
            subst hp
            exact absurd e hne
          · rcases resp_split hne f _ rest (by simpa using hs) hv with h3 | h3
            · refine .inl ⟨fun p hp e => ?_, h3⟩
              rw [List.mem_singleton] at hp
              subst hp
              exact absurd e.symm h2
            · refine .inr ⟨fun p hp e => ?_, h3⟩
              rw [List.mem_singleton] at hp
              subst hp
              exact absurd e.symm h1
section perm2
variable {ops : Array Oper} {π : List Nat} {ex : List (Nat × Nat)} (hp : PermOK π ops.size)
/-- The same is listed. -/
def SameL (π : List Nat) (n : Nat) (L L' : Array Bool) : Prop := L.size = n ∧ L'.size = n ∧ ∀ i, i < n → L'.getD (π.idxOf i) true = L.getD i true
theorem getD_b {L : Array Bool} {i : Nat} (h : i < L.size) (b c : Bool) : L.getD i b = L.getD i c := by
  simp [Array.getD_eq_getD_getElem?, Array.getElem?_eq_getElem h]
theorem getD_out {L : Array Bool} {i : Nat} (h : L.size ≤ i) (b : Bool) : L.getD i b = b := by
  simp [Array.getD_eq_getD_getElem?, Array.getElem?_eq_none h]
include hp
theorem sameL_false {L L' : Array Bool} (h : SameL π ops.size L L') (i : Nat) : L'.getD (π.idxOf i) false = L.getD i false := by
  rcases Nat.lt_or_ge i ops.size with hi | hi
  · rw [getD_b (by rw [h.2.1]; exact (hp.to i hi).1) false true, getD_b (by rw [h.1]; exact hi) false true]
    exact h.2.2 i hi
  · rw [hp.out i hi, getD_out (by rw [h.2.1]; exact Nat.le_refl _), getD_out (by rw [h.1]; exact hi)]
theorem sameL_set {L L' : Array Bool} (h : SameL π ops.size L L') {i : Nat} (hi : i < ops.size) : SameL π ops.size (L.setIfInBounds i true) (L'.setIfInBounds (π.idxOf i) true) := by
  refine ⟨by simpa using h.1, by simpa using h.2.1, fun j hj => ?_⟩
  have h1 := h.2.2 j hj
  have hji : π.idxOf i = π.idxOf j ↔ i = j := by
    refine ⟨fun e => ?_, fun e => by rw [e]⟩
    have a1 := (hp.to i hi).2
    have a2 := (hp.to j hj).2
    rw [e, a2] at a1
    exact (Option.some.inj a1).symm
  simp only [Array.getD_eq_getD_getElem?, Array.getElem?_setIfInBounds] at h1 ⊢
  by_cases e : i = j
  · subst e
    have a1 := (hp.to i hi).1
    simp [h.1, h.2.1, hi, a1]
  · rw [if_neg (fun q => e (hji.1 q)), if_neg e]
    exact h1
theorem ready_perm {L L' : Array Bool} (h : SameL π ops.size L L') {i : Nat} (hi : i ∈ Region.ready .any ops L) (hr : ∀ p ∈ ex, p.2 = i → L.getD p.1 false = true) : π.idxOf i ∈ Region.ready .any (permE π ex ops) L' := by
  obtain ⟨h1, o, ho, h2⟩ := mem_ready.1 hi
  have hlt := (Array.getElem?_eq_some_iff.1 ho).1
  refine mem_ready.2 ⟨by rw [h.2.2 i hlt]; exact h1, _, by rw [perm_at hp hlt, ho]; rfl, fun e he hb => ?_⟩
  simp only [renO, List.mem_toArray, List.mem_append, List.mem_map, List.mem_filter, beq_iff_eq] at he
  rcases he with ⟨e', he', rfl⟩ | ⟨p, ⟨hp1, hp2⟩, rfl⟩
  · simp only
    rw [sameL_false hp h]
    exact h2 e' (by simpa using he') hb
  · simp only
    rw [sameL_false hp h]
    exact hr p hp1 hp2
theorem ready_back {L L' : Array Bool} (h : SameL π ops.size L L') {k : Nat} (hk : k ∈ Region.ready .any (permE π ex ops) L') : ∃ i, i ∈ Region.ready .any ops L := by
  obtain ⟨h1, o', ho', h2⟩ := mem_ready.1 hk
  have hlt := (Array.getElem?_eq_some_iff.1 ho').1
  rw [perm_size hp] at hlt
  obtain ⟨i, e, hi, hik⟩ := hp.back k hlt
  have ho : ops[i]? = some ops[i] := Array.getElem?_eq_getElem hi
  refine ⟨i, mem_ready.2 ⟨by rw [← h.2.2 i hi, hik]; exact h1, _, ho, fun e he hb => ?_⟩⟩
  have e1 := perm_at (ex := ex) hp hi
  rw [hik, ho', ho] at e1
  have e2 := Option.some.inj e1
  have := h2 ⟨π.idxOf e.on, e.ground⟩ (by
    rw [e2]
    simp only [renO, List.mem_toArray, List.mem_append, List.mem_map]
    exact .inl ⟨e, by simpa using he, rfl⟩) hb
  rw [← sameL_false hp h]
  exact this
theorem valid_perm : ∀ (f : Nat) (L L' : Array Bool) (o : List Nat), SameL π ops.size L L' → Valid ops f L o → Resp ex L o → Valid (permE π ex ops) f L' (o.map fun i => π.idxOf i)
  | 0, L, L', o, h, hv, hr => by have e : o = [] := hv; subst e; rfl
  | f + 1, L, L', o, h, hv, hr => by
      rcases hv with ⟨rfl, h0⟩ | ⟨i, rest, rfl, hi, hv⟩
      · refine .inl ⟨rfl, ?_⟩
        cases hk : Region.ready .any (permE π ex ops) L' with
        | nil => rfl
        | cons k ks =>
          obtain ⟨i, hi⟩ := ready_back (ex := ex) hp h (k := k) (by rw [hk]; simp)
          rw [h0] at hi
          cases hi
      · have hlt : i < ops.size := by
          obtain ⟨o, ho⟩ := ready_some hi
          exact (Array.getElem?_eq_some_iff.1 ho).1
        exact .inr ⟨_, _, rfl, ready_perm hp h hi hr.1, valid_perm f _ _ rest (sameL_set hp h hlt) hv hr.2⟩
end perm2
/-- Which one of two operations comes first; at the end an order and levels. -/
inductive SpT where
  | leaf (π lv : List Nat)
  | node (x y : Nat) (l r : SpT)
def SpT.holds (K : List Nat → List Nat → List (Nat × Nat) → Prop) : SpT → List (Nat × Nat) → Prop
  | .leaf π lv, ex => K π lv ex
  | .node x y l r, ex => x ≠ y ∧ l.holds K ((x, y) :: ex) ∧ r.holds K ((y, x) :: ex)
theorem spT_ok {P : Program} {ops : Array Oper} {Q : Exit → Act → World → Prop} {a : Act} {w : World} {K : List Nat → List Nat → List (Nat × Nat) → Prop}
    (hK : ∀ π lv ex, K π lv ex → PermOK π ops.size ∧ wpAny P .any (permE π ex ops) Q (permE π ex ops).size (Array.replicate (permE π ex ops).size false) a w) {o : List Nat} (hv : Valid ops ops.size (Array.replicate ops.size false) o) :
    ∀ (t : SpT) (ex : List (Nat × Nat)), Resp ex (Array.replicate ops.size false) o → t.holds K ex → wpOps P ops Q o a w
  | .leaf π lv, ex, hr, h => by
      obtain ⟨hp, h1⟩ := hK π lv ex h
      rw [perm_size hp] at h1
      refine perm_ops hp o (valid_lt _ _ _ hv) a w (any_valid _ _ _ a w h1 (valid_perm hp _ _ _ o ⟨by simp, by simp, fun i hi => ?_⟩ hv hr))
      have := (hp.to i hi).1
      simp [Array.getD_eq_getD_getElem?, hi, this]
  | .node x y l r, ex, hr, ⟨hne, hl, hr2⟩ => by
      rcases resp_split hne _ _ _ (by simp) hv with h1 | h1
      · exact spT_ok hK hv l _ (resp_cons h1 hr) hl
      · exact spT_ok hK hv r _ (resp_cons h1 hr) hr2
/-- A region in any order, told apart by which one of two operations comes first. -/
theorem regionS (ids : List FuncId) (t : SpT) {P : Program} {T : Unit → Tab} (hT : TabOk P (T ())) {H : Unit → Kn} (hH : SoundK P (H ())) {B : Unit → KnB} (hB : SoundB P (B ())) {R : Unit → KnR} (hR : SoundR P (R ())) (hm : P.follows .mixedOrders = true) {N : Nat} {Q : Exit → SL → Store → Prop} {s : SL} {st : Store} {id : Nat} {ops : Array Oper} {A : Ar} {X : Cps} (hA : A = A0) (hX : X = X0 P N)
    (h : t.holds (fun π lv ex => permB π ops.size = true ∧ Region.lexB .any (permE π ex ops) = true ∧ turnsC ids (permE π ex ops) = true ∧ levelsB ids lv (permE π ex ops) = true ∧ mixL ids lv T A H B R N (permE π ex ops) (Q .normal) 0 (permE π ex ops).toList s st [] []) []) : X.st (.region id ops true) Q s st := by
  subst hA; subst hX
  show wpD P N (.region id ops true) (lessQ Q) (getS s) st
  intro E a hc hst hs
  subst hst
  obtain ⟨c1, c2⟩ := newNone hc { E.w with drawn := E.w.drawn + 1 } (Nat.le_refl _) (fun _ _ => rfl) rfl rfl rfl
  refine wp_region_draw fun k => ?_
  simp only [Region.schedule, hm, Bool.true_or, if_true]
  refine spT_ok (fun π lv ex hk => ?_) (valid_lin ops ops.size k (Array.replicate ops.size false)) t [] (resp_nil _ _) h
  obtain ⟨k1, k2, k3, k4, k5⟩ := hk
  refine ⟨permB_ok k1, ?_⟩
  generalize permE π ex ops = v at k2 k3 k4 k5 ⊢
  obtain ⟨l⟩ := v
  obtain ⟨later, h1, _⟩ := mixL_ok hT hH hB hR l 0 s E.st [] [] k5
  have h2 : anyD P N l.toArray (fun s' st' => ∃ l, getS l = s' ∧ Q .normal l st') l.length (Array.replicate l.length false) (getS s) E.st := by
    have hB : Region.lexFrom .any l.toArray l.toArray.size 0 (Array.replicate l.toArray.size false) = true := by
      simp only [Region.lexB, Bool.and_eq_true] at k2
      exact k2.2
    have h3 := anyD_of_L (ids := ids) (lv := lv) (P := P) (N := N) (ops := l.toArray) (sts := rowSt [] E.st later) (m := 0 + later.length) (Q := fun s' st' => ∃ l, getS l = s' ∧ Q .normal l st') l.length (Array.replicate l.length false) (getS s) 0 (Nat.zero_le _)
      (anyL_lex k3 k4 l 0 (Array.replicate l.length false) (getS s) 0 (by simp) (by simpa using hB) ⟨fun p hp => by rw [Array.getD_eq_getD_getElem?, Array.getElem?_replicate] at hp; split at hp <;> simp at hp, fun p o _ hp => by rw [Array.getD_eq_getD_getElem?, Array.getElem?_replicate] at hp; split at hp <;> simp at hp⟩ (by simpa using h1))
    have e0 : rowSt [] E.st later 0 = E.st := rowSt_at [] E.st later
    rw [e0] at h3
    simpa using h3
  have := any_ok (P := P) (Q := fun e a' w' => ∃ (s' : Slots) (E' : Env), E'.w = w' ∧ lessQ Q e s' E'.st ∧ Conc E' ∧ Ext E E' ∧ SlotsOk E' N s' a') l.length (Array.replicate l.length false) (getS s) ⟨{ E.w with drawn := E.w.drawn + 1 }, E.S, E.σ, E.st⟩ a c1 (hs.ext hc c2) h2
    fun s' a' E' hk h1 h2 h3 => by
      obtain ⟨l, rfl, hq⟩ := hk
      exact ⟨getS l, E', rfl, ⟨l, fun _ => .inl rfl, hq⟩, h1, Ext.trans hc.len c1.len c2 h2, h3⟩
  simpa using this
end Go.Proofs.Ytmjmbfcfnhnpmaa
