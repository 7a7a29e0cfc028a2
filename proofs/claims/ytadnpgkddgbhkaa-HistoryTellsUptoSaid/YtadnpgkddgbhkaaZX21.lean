/- Replies and owners: what the functions give. No condition. -/
import Derived.Test.YtadnpgkddgbhkaaZX19
import Derived.Test.YtadnpgkddgbhkaaZX17
namespace Go.Proofs.Ytadnpgkddgbhkaa
open Go.RowKit
set_option linter.all false
noncomputable def repliesX (a b : Reply) : Bool := @decide (a = b) (Classical.propDecidable _)
theorem repliesX_false {a b : Reply} (h : ¬ a = b) : repliesX a b = false := by simp [repliesX, h]
theorem repliesX_true {a b : Reply} (h : a = b) : repliesX a b = true := by simp [repliesX, h]
theorem repliesX_iff {a b : Reply} : repliesX a b = true ↔ a = b := by simp [repliesX]
def zeroR (r : Reply) : Bool := decide (r.why = 0) && !r.found && decide (r.value = none8) && decide (r.version = 0) && decide (r.pairs.length = 0)
def rightRep (r : Reply) : Bool := (decide (r.why = 0) || decide (r.why = 7)) && decide (r.value.size ≤ 64) && decide (0 ≤ r.version) && decide (r.pairs.length ≤ 8) && rightX r.pairs
def knownX (c : Int) : Bool := decide (1 ≤ c) && decide (c ≤ 8)
structure Owner where
 seq : Int
 reply : Reply
def Owner.cells (o : Owner) : List DV := [.d (.sc (.int .i64 o.seq)), .d (.sc (.int .i64 o.reply.why)), .d (.sc (.bool o.reply.found)), .d (.sc (.string o.reply.value)), .d (.sc (.int .i64 o.reply.version)), .d (.slc 3 o.reply.pairs)]
def ownsD (os : List Owner) : List DV := (os.map Owner.cells).flatten
def isOwn (cs : List DV) : Prop := ∃ os : List Owner, os.length = 8 ∧ cs = ownsD os ∧ ∀ o ∈ os, isP o.reply.pairs
theorem own_drop : ∀ (i : Nat) (os : List Owner) (h : i < os.length), (ownsD os).drop (i * 6) = (os[i]'h).cells ++ ownsD (os.drop (i + 1))
 | 0, o :: os, _ => rfl
 | i + 1, o :: os, h => by
     have h' : i < os.length := by simpa using h
     have e : ownsD (o :: os) = o.cells ++ ownsD os := rfl
     rw [e, Nat.succ_mul, Nat.add_comm, ← List.drop_drop]
     have e2 : (o.cells ++ ownsD os).drop 6 = ownsD os := rfl
     rw [e2, own_drop i os h']
     rfl
theorem own_pull (κ : List Nat) {cs : List DV} {os : List Owner} (hcs : cs = ownsD os) : cs.map (pullD κ) = cs := by
 subst hcs
 induction os with
 | nil => rfl
 | cons o os ih =>
   have e : ownsD (o :: os) = o.cells ++ ownsD os := rfl
   rw [e, List.map_append, ih]
   rfl
theorem own_pullL (κ : List Nat) {cs : List DV} {os : List Owner} (hcs : cs = ownsD os) : pullL κ cs = cs := (pullL_eq κ cs).trans (own_pull κ hcs)
theorem own_length : ∀ os : List Owner, (ownsD os).length = os.length * 6
 | [] => rfl
 | o :: os => by
     have e : ownsD (o :: os) = o.cells ++ ownsD os := rfl
     rw [e, List.length_append, own_length os, List.length_cons]
     have : o.cells.length = 6 := rfl
     omega
theorem own_cell {cs : List DV} {os : List Owner} (hcs : cs = ownsD os) (i : Nat) (h : i < os.length) : cs[i * 6]? = some (.d (.sc (.int .i64 (os[i]'h).seq))) ∧ cs[i * 6 + 1]? = some (.d (.sc (.int .i64 (os[i]'h).reply.why))) ∧ cs[i * 6 + 2]? = some (.d (.sc (.bool (os[i]'h).reply.found))) ∧
  cs[i * 6 + 3]? = some (.d (.sc (.string (os[i]'h).reply.value))) ∧ cs[i * 6 + 4]? = some (.d (.sc (.int .i64 (os[i]'h).reply.version))) ∧ cs[i * 6 + 5]? = some (.d (.slc 3 (os[i]'h).reply.pairs)) ∧ (cs.drop (i * 6)).take 6 = (os[i]'h).cells ∧ i * 6 + 6 ≤ cs.length := by
 have hd := own_drop i os h
 have hl := own_length os
 subst hcs
 have g : ∀ j, (ownsD os)[i * 6 + j]? = ((os[i]'h).cells ++ ownsD (os.drop (i + 1)))[j]? := fun j => by rw [← hd, List.getElem?_drop]
 refine ⟨g 0, g 1, g 2, g 3, g 4, g 5, ?_, by omega⟩
 rw [hd]
 rfl
theorem own_tail {cs : List DV} {os : List Owner} (hcs : cs = ownsD os) (i : Nat) (h : i < os.length) : (cs.drop (i * 6 + 1)).take 5 = [.d (.sc (.int .i64 (os[i]'h).reply.why)), .d (.sc (.bool (os[i]'h).reply.found)), .d (.sc (.string (os[i]'h).reply.value)), .d (.sc (.int .i64 (os[i]'h).reply.version)), .d (.slc 3 (os[i]'h).reply.pairs)] := by
 subst hcs
 rw [← List.drop_drop, own_drop i os h]
 rfl
theorem list8 {α : Type} : ∀ {l : List α}, l.length = 8 → ∃ a b c d e f g h, l = [a, b, c, d, e, f, g, h]
 | [a, b, c, d, e, f, g, h], _ => ⟨a, b, c, d, e, f, g, h, rfl⟩
noncomputable def ownOf (cs : List DV) (k : Nat) : Owner := ⟨A0.gi cs (k * 6), A0.gi cs (k * 6 + 1), A0.gb cs (k * 6 + 2), A0.gs cs (k * 6 + 3), A0.gi cs (k * 6 + 4), A0.gl cs (k * 6 + 5)⟩
theorem ownOf_D {cs : List DV} {os : List Owner} (hcs : cs = ownsD os) (i : Nat) (h : i < os.length) : ownOf cs i = os[i]'h := by
 obtain ⟨g0, g1, g2, g3, g4, g5, _, _⟩ := own_cell hcs i h
 simp only [ownOf, A0, g0, g1, g2, g3, g4, g5]
theorem splice_own : ∀ (k : Nat) (os : List Owner) (o : Owner), k < os.length → splice (ownsD os) (k * 6) o.cells = ownsD (os.set k o)
 | 0, q :: os, o, _ => rfl
 | k + 1, q :: os, o, h => by
     have h' : k < os.length := by simpa using h
     have ih := splice_own k os o h'
     have e : ownsD (q :: os) = q.cells ++ ownsD os := rfl
     have e2 : ownsD ((q :: os).set (k + 1) o) = q.cells ++ ownsD (os.set k o) := rfl
     rw [e, e2, ← ih, Nat.succ_mul]
     rfl
theorem splice_same {cs ds : List DV} {o n : Nat} (h : (cs.drop o).take n = ds) (hn : ds.length = n) : splice cs o ds = cs := by
 subst h
 simp only [splice]
 rw [hn, ← List.drop_drop, List.append_assoc, List.take_append_drop, List.take_append_drop]
theorem told_eq {k : Nat} {s s' : SL} {st st' : Store} (e : st = st') (h : toldP id s s') : Told k s st s' st' := by subst e; exact told_less h
def noteOs (os : List Owner) (client seq : Int) (r : Reply) : List Owner := bif knownX client then os.set (client - 1).toNat ⟨seq, r⟩ else os
theorem own_at {cs : List DV} {os : List Owner} (hos : os.length = 8) (hcs : cs = ownsD os) (hop : ∀ o ∈ os, isP o.reply.pairs) {client : Int} (hk : knownX client = true) : IntKind.wrap .i64 (client - 1) = client - 1 ∧ 0 ≤ client - 1 ∧ client - 1 < 8 ∧
  ∃ o : Owner, ownOf cs (client - 1).toNat = o ∧ isP o.reply.pairs ∧ cs[(client - 1).toNat * 6]? = some (.d (.sc (.int .i64 o.seq))) ∧ cs[(client - 1).toNat * 6 + 1]? = some (.d (.sc (.int .i64 o.reply.why))) ∧ cs[(client - 1).toNat * 6 + 2]? = some (.d (.sc (.bool o.reply.found))) ∧
  cs[(client - 1).toNat * 6 + 3]? = some (.d (.sc (.string o.reply.value))) ∧ cs[(client - 1).toNat * 6 + 4]? = some (.d (.sc (.int .i64 o.reply.version))) ∧ cs[(client - 1).toNat * 6 + 5]? = some (.d (.slc 3 o.reply.pairs)) ∧ (cs.drop ((client - 1).toNat * 6)).take 6 = o.cells ∧ (client - 1).toNat * 6 + 6 ≤ cs.length := by
 simp only [knownX, Bool.and_eq_true, decide_eq_true_eq] at hk
 have h : (client - 1).toNat < os.length := by omega
 exact ⟨wrap_i64 (by unfold r64; omega), by omega, by omega, _, ownOf_D hcs _ h, hop _ (List.getElem_mem h), own_cell hcs _ h⟩
def okO (o : Owner) : Bool := decide (0 ≤ o.seq) && decide (o.seq ≤ 1099511627776) && rightRep o.reply && (!decide (o.seq = 0) || zeroR o.reply)
theorem okO_eq (o : Owner) : okO o = !(bif bif bif decide (o.seq < 0) then true else decide (1099511627776 < o.seq) then true else !rightRep o.reply then true else bif decide (o.seq = 0) then !zeroR o.reply else false) := by
 have e1 : decide (0 ≤ o.seq) = !decide (o.seq < 0) := by by_cases h : o.seq < 0 <;> simp [h] <;> omega
 have e2 : decide (o.seq ≤ 1099511627776) = !decide (1099511627776 < o.seq) := by by_cases h : 1099511627776 < o.seq <;> simp [h] <;> omega
 rw [okO, e1, e2]
 cases decide (o.seq < 0) <;> cases decide (1099511627776 < o.seq) <;> cases rightRep o.reply <;> cases decide (o.seq = 0) <;> cases zeroR o.reply <;> rfl
def rightOs : List Owner → Bool
 | [] => true
 | o :: os => okO o && rightOs os
noncomputable def ownersOf (cs : List DV) : List Owner := [ownOf cs 0, ownOf cs 1, ownOf cs 2, ownOf cs 3, ownOf cs 4, ownOf cs 5, ownOf cs 6, ownOf cs 7]
theorem ownersOf_D {cs : List DV} {os : List Owner} (hos : os.length = 8) (hcs : cs = ownsD os) : ownersOf cs = os := by
 obtain ⟨a, b, c, d, e, f, g, h, rfl⟩ := list8 hos
 subst hcs
 rfl
noncomputable def rightO (cs : List DV) : Bool := rightOs (ownersOf cs)
noncomputable def stateX (xs : List (List PD)) (cs : List DV) : Bool := rightOs (ownersOf cs) && rightX xs
theorem odrop {os : List Owner} {i : Int} (h0 : 0 ≤ i) (h1 : i.toNat < os.length) : os.drop i.toNat = (os[i.toNat]'h1) :: os.drop (i + 1).toNat := by
 rw [List.drop_eq_getElem_cons h1]
 congr 2
 omega
def zeroRep : Reply := ⟨0, false, none8, 0, []⟩
theorem noteOs_length (os : List Owner) (client seq : Int) (r : Reply) : (noteOs os client seq r).length = os.length := by
 unfold noteOs
 cases knownX client <;> simp
theorem noteOs_isP {os : List Owner} (h : ∀ o ∈ os, isP o.reply.pairs) {r : Reply} (hr : isP r.pairs) (client seq : Int) : ∀ o ∈ noteOs os client seq r, isP o.reply.pairs := by
 intro o ho
 unfold noteOs at ho
 cases hk : knownX client with
 | false => rw [hk] at ho; exact h o ho
 | true =>
   rw [hk] at ho
   rcases List.mem_or_eq_of_mem_set ho with h1 | h1
   ·exact h o h1
   ·subst h1; exact hr
theorem own_closed : ∀ os : List Owner, closedL 0 (ownsD os) = true
 | [] => rfl
 | o :: os => own_closed os
theorem isOwn.closed {cs : List DV} (h : isOwn cs) : closedL 0 cs = true := by
 obtain ⟨os, _, rfl, _⟩ := h
 exact own_closed os
noncomputable def lookX (cs : List DV) (client seq : Int) : Int × Reply :=
 bif knownX client then (bif decide ((ownOf cs (client - 1).toNat).seq < seq) then (1, zeroRep) else bif decide (seq = (ownOf cs (client - 1).toNat).seq) then (2, (ownOf cs (client - 1).toNat).reply) else (3, zeroRep)) else (0, zeroRep)
noncomputable def noteX (cs : List DV) (client seq : Int) (r : Reply) : List DV := bif knownX client then splice cs ((client - 1).toNat * 6) (Owner.cells ⟨seq, r⟩) else cs
theorem noteX_D {cs : List DV} {os : List Owner} (hos : os.length = 8) (hcs : cs = ownsD os) (client seq : Int) (r : Reply) : noteX cs client seq r = ownsD (noteOs os client seq r) := by
 unfold noteX noteOs
 cases hk : knownX client with
 | false => exact hcs
 | true =>
   simp only [knownX, Bool.and_eq_true, decide_eq_true_eq] at hk
   rw [hcs]
   exact splice_own _ _ _ (by omega)
def idR (r : Reply) : Reply := r
def foundX : Reply := ⟨0, true, none8, 0, []⟩
def upC : DV → DV
 | .d (.sc (.slice none 0 0)) => .d (.slc 3 [])
 | d => d
def upCs (cs : List DV) : List DV := cs.map upC
theorem upC_cases (d : DV) : upC d = d ∨ (d = .d (.sc (.slice none 0 0)) ∧ upC d = .d (.slc 3 [])) := by
 unfold upC
 split
 ·exact .inr ⟨rfl, rfl⟩
 ·exact .inl rfl
theorem upL_upCs : ∀ cs : List DV, UpL cs (upCs cs)
 | [] => UpL.done
 | c :: cs => by
     rcases upC_cases c with h | ⟨h, h2⟩
     ·have e : upCs (c :: cs) = c :: upCs cs := by simp [upCs, h]
      rw [e]
      exact UpL.keep (upL_upCs cs)
     ·have e : upCs (c :: cs) = .d (.slc 3 []) :: upCs cs := by simp [upCs, h2]
      rw [e, h]
      exact UpL.nil (upL_upCs cs)
theorem closed_upCs : ∀ cs : List DV, closedL 0 (upCs cs) = closedL 0 cs
 | [] => rfl
 | c :: cs => by
     have e : upCs (c :: cs) = upC c :: upCs cs := rfl
     rw [e]
     simp only [closedL, closed_upCs cs]
     rcases upC_cases c with h | ⟨h, h2⟩
     ·rw [h]
     ·rw [h2, h]; rfl
def isOwnU (cs : List DV) : Prop := isOwn (upCs cs)
theorem isOwnU.closed {cs : List DV} (h : isOwnU cs) : closedL 0 cs = true := (closed_upCs cs).symm.trans (isOwn.closed h)
theorem clo1 {cs rest : List DV} (h : closedL 0 cs = true) (h2 : closedL 0 rest = true) : closedL 0 (.agg cs :: rest) = true := by simp only [closedL, closedD, h, h2, Bool.and_self]
theorem own_up {cs : List DV} (h : isOwn cs) : upCs cs = cs := by
 obtain ⟨os, h1, rfl, h2⟩ := h
 clear h1 h2
 induction os with
 | nil => rfl
 | cons o os ih =>
   have e : ownsD (o :: os) = o.cells ++ ownsD os := rfl
   have e2 : upCs (o.cells ++ ownsD os) = upCs o.cells ++ upCs (ownsD os) := List.map_append ..
   have e3 : upCs o.cells = o.cells := rfl
   rw [e, e2, e3, ih]
theorem isOwn.u {cs : List DV} (h : isOwn cs) : isOwnU cs := by
 unfold isOwnU
 rw [own_up h]
 exact h
noncomputable def lookU (cs : List DV) (client seq : Int) : Int × Reply := lookX (upCs cs) client seq
noncomputable def noteU (cs : List DV) (client seq : Int) (r : Reply) : List DV := noteX (upCs cs) client seq r
noncomputable def rightU (cs : List DV) : Bool := rightO (upCs cs)
noncomputable def stateU (xs : List (List PD)) (cs : List DV) : Bool := stateX xs (upCs cs)
theorem replies_zero (r : Reply) : repliesX r ⟨0, false, none8, 0, []⟩ = zeroR r := by
 rw [Bool.eq_iff_iff, repliesX_iff]
 obtain ⟨a, b, c, d, e⟩ := r
 simp [zeroR, and_assoc]
structure FsOw where
 state : List (List PD) → List DV → Bool
 isOwn : List DV → Prop
 r64 : Int → Prop
 replies : Reply → Reply → Bool
 zero : Reply → Bool
 rrep : Reply → Bool
 rrepR : Reply → Bool
 copied : Reply → Reply
 known : Int → Bool
 found : Reply
 isP : List (List PD) → Prop
noncomputable def FsOw0 : FsOw where
 state := stateU
 isOwn := isOwnU
 r64 := r64
 replies := repliesX
 zero := zeroR
 rrep := rightRep
 rrepR := rightRep
 copied := idR
 known := knownX
 found := foundX
 isP := isP
set_option maxRecDepth 100000 in
theorem v_known (c : Int) : FnV Try.prog 51 [intD c] (boolD ((knownX c))) := by
 refine FnD_cbv (T := fun _ => tabY [] []) (H := fun _ => []) (tabY_ok _ _) noK_ok follows_mixed Try.func51 rfl Try.ntmps51 (by simp) fun A X W hA hX hW => ?_
 cbv
 repeat' first
  | (refine part (fun h => ?_) (fun h => ?_) <;> try cbv)
  | (refine And.intro ?_ ?_)
 all_goals subst hA hX hW
 all_goals try (show Region.lexB _ _ = true; kernel_rfl)
 all_goals try (show turnsB _ = true; kernel_rfl)
 all_goals simp only [A0, FsOw0, decide_eq_true_eq, decide_eq_false_iff_not, Bool.not_eq_true', Bool.not_eq_false'] at *
 all_goals first
  | (refine ret_v ?_ rfl
     first
      | rfl
      | (simp_all [knownX, boolD, intD, strD]; done)
      | (simp_all [knownX, boolD, intD, strD]; rfl)
      | (simp only [knownX, boolD, intD, strD] at *; congr 3; grind)
      | (simp only [knownX, boolD, intD, strD] at *; grind))
  | (intros; simp_all [bytes1, maxLen]; done)
  | (intros; simp only [bytes1, maxLen] at *; omega)
  | grind
def kn_known (F : FsOw) : FuncId × (List DV → RV) := (51, fun args => match args with
 | [.d (.sc (.int .i64 c))] => some ([], boolD ((F.known c)))
 | _ => none)
theorem ok_known (args : List DV) (cs : List Prop) (r : DV) (h : (kn_known FsOw0).2 args = some (cs, r)) (hc : allP cs True) : FnV Try.prog 51 args r ∧ closedL 0 args = true := by
 unfold kn_known at h
 simp only at h
 split at h
 ·cases h; exact ⟨v_known _, rfl⟩
 ·cases h
set_option maxRecDepth 100000 in
theorem v_zero (r : Reply) : FnV Try.prog 62 [Reply.D r] (boolD ((zeroR r))) := by
 obtain ⟨r_why, r_found, r_value, r_version, r_pairs⟩ := r
 refine FnD_cbv (T := fun _ => tabY [] []) (H := fun _ => []) (tabY_ok _ _) noK_ok follows_mixed Try.func62 rfl Try.ntmps62 (by simp) fun A X W hA hX hW => ?_
 cbv
 repeat' first
  | (refine part (fun h => ?_) (fun h => ?_) <;> try cbv)
  | (refine And.intro ?_ ?_)
 all_goals subst hA hX hW
 all_goals try (show Region.lexB _ _ = true; kernel_rfl)
 all_goals try (show turnsB _ = true; kernel_rfl)
 all_goals simp only [A0, FsOw0, decide_eq_true_eq, decide_eq_false_iff_not, Bool.not_eq_true', Bool.not_eq_false'] at *
 all_goals first
  | (refine ret_v ?_ rfl
     first
      | rfl
      | (simp_all [zeroR, Reply.D, boolD, intD, strD]; done)
      | (simp_all [zeroR, Reply.D, boolD, intD, strD]; rfl)
      | (simp only [zeroR, Reply.D, boolD, intD, strD] at *; congr 3; grind)
      | (simp only [zeroR, Reply.D, boolD, intD, strD] at *; grind))
  | (intros; simp_all [bytes1, maxLen]; done)
  | (intros; simp only [bytes1, maxLen] at *; omega)
  | grind
def kn_zero (F : FsOw) : FuncId × (List DV → RV) := (62, fun args => match args with
 | [.agg [.d (.sc (.int .i64 r_why)), .d (.sc (.bool r_found)), .d (.sc (.string r_value)), .d (.sc (.int .i64 r_version)), .d (.slc 3 r_pairs)]] => some ([], boolD ((F.zero ⟨r_why, r_found, r_value, r_version, r_pairs⟩)))
 | [.agg [.d (.sc (.int .i64 r_why)), .d (.sc (.bool r_found)), .d (.sc (.string r_value)), .d (.sc (.int .i64 r_version)), .d (.sc (.slice none 0 0))]] => some ([], boolD ((F.zero ⟨r_why, r_found, r_value, r_version, []⟩)))
 | _ => none)
theorem ok_zero (args : List DV) (cs : List Prop) (r : DV) (h : (kn_zero FsOw0).2 args = some (cs, r)) (hc : allP cs True) : FnV Try.prog 62 args r ∧ closedL 0 args = true := by
 unfold kn_zero at h
 simp only at h
 split at h
 ·cases h; exact ⟨v_zero ⟨_, _, _, _, _⟩, rfl⟩
 ·cases h; exact ⟨FnP.ups (v_zero ⟨_, _, _, _, []⟩) (UpL.agg (UpL.keep (UpL.keep (UpL.keep (UpL.keep (UpL.nil UpL.done))))) UpL.done), rfl⟩
 ·cases h
set_option maxRecDepth 100000 in
theorem v_rrep (r : Reply) (hp0 : FsOw0.isP r.pairs) : FnV Try.prog 61 [Reply.D r] (boolD ((rightRep r))) := by
 obtain ⟨r_why, r_found, r_value, r_version, r_pairs⟩ := r
 obtain ⟨GFsK, hGFsK⟩ : ∃ F, F = FsK0 := ⟨_, rfl⟩
 have hH : SoundK Try.prog [kn_right GFsK] := by subst hGFsK; exact orK_ok ok_right noK_ok
 refine FnD_cbv (T := fun _ => tabY [] []) (H := fun _ => [kn_right GFsK]) (tabY_ok _ _) hH follows_mixed Try.func61 rfl Try.ntmps61 (by simp) fun A X W hA hX hW => ?_
 clear hH
 cbv
 repeat' first
  | (refine part (fun h => ?_) (fun h => ?_) <;> try cbv)
  | (refine And.intro ?_ ?_)
 all_goals subst hA hX hW hGFsK
 all_goals try (show Region.lexB _ _ = true; kernel_rfl)
 all_goals try (show turnsB _ = true; kernel_rfl)
 all_goals simp only [A0, FsK0, FsOw0, decide_eq_true_eq, decide_eq_false_iff_not, Bool.not_eq_true', Bool.not_eq_false'] at *
 all_goals first
  | (refine ret_v ?_ rfl
     first
      | rfl
      | (simp_all [rightRep, Reply.D, boolD, intD, strD]; done)
      | (simp_all [rightRep, Reply.D, boolD, intD, strD]; rfl)
      | (simp only [rightRep, Reply.D, boolD, intD, strD] at *; congr 3; grind)
      | (simp only [rightRep, Reply.D, boolD, intD, strD] at *; grind))
  | (intros; simp_all [bytes1, maxLen]; done)
  | (intros; simp only [bytes1, maxLen] at *; omega)
  | grind
def kn_rrep (F : FsOw) : FuncId × (List DV → RV) := (61, fun args => match args with
 | [.agg [.d (.sc (.int .i64 r_why)), .d (.sc (.bool r_found)), .d (.sc (.string r_value)), .d (.sc (.int .i64 r_version)), .d (.slc 3 r_pairs)]] => some ([F.isP r_pairs], boolD ((F.rrep ⟨r_why, r_found, r_value, r_version, r_pairs⟩)))
 | [.agg [.d (.sc (.int .i64 r_why)), .d (.sc (.bool r_found)), .d (.sc (.string r_value)), .d (.sc (.int .i64 r_version)), .d (.sc (.slice none 0 0))]] => some ([F.isP []], boolD ((F.rrep ⟨r_why, r_found, r_value, r_version, []⟩)))
 | _ => none)
theorem ok_rrep (args : List DV) (cs : List Prop) (r : DV) (h : (kn_rrep FsOw0).2 args = some (cs, r)) (hc : allP cs True) : FnV Try.prog 61 args r ∧ closedL 0 args = true := by
 unfold kn_rrep at h
 simp only at h
 split at h
 ·cases h; exact ⟨v_rrep ⟨_, _, _, _, _⟩ hc.1, rfl⟩
 ·cases h; exact ⟨FnP.ups (v_rrep ⟨_, _, _, _, []⟩ hc.1) (UpL.agg (UpL.keep (UpL.keep (UpL.keep (UpL.keep (UpL.nil UpL.done))))) UpL.done), rfl⟩
 ·cases h
set_option maxRecDepth 100000 in
theorem v_rrepR (r : Reply) (hp0 : FsOw0.isP r.pairs) : FnV Try.prog 86 [Reply.D r] (boolD ((rightRep r))) := by
 obtain ⟨r_why, r_found, r_value, r_version, r_pairs⟩ := r
 obtain ⟨GFsK, hGFsK⟩ : ∃ F, F = FsK0 := ⟨_, rfl⟩
 have hH : SoundK Try.prog [kn_rightR GFsK] := by subst hGFsK; exact orK_ok ok_rightR noK_ok
 refine FnD_cbv (T := fun _ => tabY [] []) (H := fun _ => [kn_rightR GFsK]) (tabY_ok _ _) hH follows_mixed Try.func86 rfl Try.ntmps86 (by simp) fun A X W hA hX hW => ?_
 clear hH
 cbv
 repeat' first
  | (refine part (fun h => ?_) (fun h => ?_) <;> try cbv)
  | (refine And.intro ?_ ?_)
 all_goals subst hA hX hW hGFsK
 all_goals try (show Region.lexB _ _ = true; kernel_rfl)
 all_goals try (show turnsB _ = true; kernel_rfl)
 all_goals simp only [A0, FsK0, FsOw0, decide_eq_true_eq, decide_eq_false_iff_not, Bool.not_eq_true', Bool.not_eq_false'] at *
 all_goals first
  | (refine ret_v ?_ rfl
     first
      | rfl
      | (simp_all [rightRep, Reply.D, boolD, intD, strD]; done)
      | (simp_all [rightRep, Reply.D, boolD, intD, strD]; rfl)
      | (simp only [rightRep, Reply.D, boolD, intD, strD] at *; congr 3; grind)
      | (simp only [rightRep, Reply.D, boolD, intD, strD] at *; grind))
  | (intros; simp_all [bytes1, maxLen]; done)
  | (intros; simp only [bytes1, maxLen] at *; omega)
  | grind
def kn_rrepR (F : FsOw) : FuncId × (List DV → RV) := (86, fun args => match args with
 | [.agg [.d (.sc (.int .i64 r_why)), .d (.sc (.bool r_found)), .d (.sc (.string r_value)), .d (.sc (.int .i64 r_version)), .d (.slc 3 r_pairs)]] => some ([F.isP r_pairs], boolD ((F.rrepR ⟨r_why, r_found, r_value, r_version, r_pairs⟩)))
 | [.agg [.d (.sc (.int .i64 r_why)), .d (.sc (.bool r_found)), .d (.sc (.string r_value)), .d (.sc (.int .i64 r_version)), .d (.sc (.slice none 0 0))]] => some ([F.isP []], boolD ((F.rrepR ⟨r_why, r_found, r_value, r_version, []⟩)))
 | _ => none)
theorem ok_rrepR (args : List DV) (cs : List Prop) (r : DV) (h : (kn_rrepR FsOw0).2 args = some (cs, r)) (hc : allP cs True) : FnV Try.prog 86 args r ∧ closedL 0 args = true := by
 unfold kn_rrepR at h
 simp only at h
 split at h
 ·cases h; exact ⟨v_rrepR ⟨_, _, _, _, _⟩ hc.1, rfl⟩
 ·cases h; exact ⟨FnP.ups (v_rrepR ⟨_, _, _, _, []⟩ hc.1) (UpL.agg (UpL.keep (UpL.keep (UpL.keep (UpL.keep (UpL.nil UpL.done))))) UpL.done), rfl⟩
 ·cases h
set_option maxRecDepth 100000 in
theorem v_copied (r : Reply) (hp0 : FsOw0.isP r.pairs) : FnV Try.prog 52 [Reply.D r] (Reply.D ((idR r))) := by
 obtain ⟨r_why, r_found, r_value, r_version, r_pairs⟩ := r
 obtain ⟨GFsK, hGFsK⟩ : ∃ F, F = FsK0 := ⟨_, rfl⟩
 have hH : SoundK Try.prog [kn_clone GFsK] := by subst hGFsK; exact orK_ok ok_clone noK_ok
 refine FnD_cbv (T := fun _ => tabY [] []) (H := fun _ => [kn_clone GFsK]) (tabY_ok _ _) hH follows_mixed Try.func52 rfl Try.ntmps52 (by simp) fun A X W hA hX hW => ?_
 clear hH
 cbv
 repeat' first
  | (refine part (fun h => ?_) (fun h => ?_) <;> try cbv)
  | (refine And.intro ?_ ?_)
 all_goals subst hA hX hW hGFsK
 all_goals try (show Region.lexB _ _ = true; kernel_rfl)
 all_goals try (show turnsB _ = true; kernel_rfl)
 all_goals simp only [A0, FsK0, FsOw0, decide_eq_true_eq, decide_eq_false_iff_not, Bool.not_eq_true', Bool.not_eq_false'] at *
 all_goals first
  | (refine ret_v ?_ rfl
     first
      | rfl
      | (simp_all [idR, Reply.D, boolD, intD, strD]; done)
      | (simp_all [idR, Reply.D, boolD, intD, strD]; rfl)
      | (simp only [idR, Reply.D, boolD, intD, strD] at *; congr 3; grind)
      | (simp only [idR, Reply.D, boolD, intD, strD] at *; grind))
  | (intros; simp_all [bytes1, maxLen]; done)
  | (intros; simp only [bytes1, maxLen] at *; omega)
  | grind
def kn_copied (F : FsOw) : FuncId × (List DV → RV) := (52, fun args => match args with
 | [.agg [.d (.sc (.int .i64 r_why)), .d (.sc (.bool r_found)), .d (.sc (.string r_value)), .d (.sc (.int .i64 r_version)), .d (.slc 3 r_pairs)]] => some ([F.isP r_pairs], Reply.D ((F.copied ⟨r_why, r_found, r_value, r_version, r_pairs⟩)))
 | [.agg [.d (.sc (.int .i64 r_why)), .d (.sc (.bool r_found)), .d (.sc (.string r_value)), .d (.sc (.int .i64 r_version)), .d (.sc (.slice none 0 0))]] => some ([F.isP []], Reply.D ((F.copied ⟨r_why, r_found, r_value, r_version, []⟩)))
 | _ => none)
theorem ok_copied (args : List DV) (cs : List Prop) (r : DV) (h : (kn_copied FsOw0).2 args = some (cs, r)) (hc : allP cs True) : FnV Try.prog 52 args r ∧ closedL 0 args = true := by
 unfold kn_copied at h
 simp only at h
 split at h
 ·cases h; exact ⟨v_copied ⟨_, _, _, _, _⟩ hc.1, rfl⟩
 ·cases h; exact ⟨FnP.ups (v_copied ⟨_, _, _, _, []⟩ hc.1) (UpL.agg (UpL.keep (UpL.keep (UpL.keep (UpL.keep (UpL.nil UpL.done))))) UpL.done), rfl⟩
 ·cases h
set_option maxRecDepth 100000 in
theorem v_replies (a : Reply) (b : Reply) (hp0 : FsOw0.isP a.pairs) (hp1 : FsOw0.isP b.pairs) : FnV Try.prog 13 [Reply.D a, Reply.D b] (boolD ((repliesX a b))) := by
 obtain ⟨a_why, a_found, a_value, a_version, a_pairs⟩ := a
 obtain ⟨b_why, b_found, b_value, b_version, b_pairs⟩ := b
 obtain ⟨ps, hxs, hl⟩ := hp0
 obtain ⟨qs, hys, hm⟩ := hp1
 simp only at hxs hys
 have hlx : a_pairs.length = ps.length := by rw [hxs]; exact pairsX_length ps
 have hly : b_pairs.length = qs.length := by rw [hys]; exact pairsX_length qs
 refine FnD_cbv (T := fun _ => tabY [51, 56] []) (H := fun _ => []) (tabY_ok _ _) noK_ok follows_mixed Try.func13 rfl Try.ntmps13 (by simp) fun A X W hA hX hW => ?_
 cbv
 repeat' (refine And.intro ?_ ?_)
 all_goals try (subst hA; intro hq; exact hq)
 all_goals try (subst hA; intro hq; simpa [A0] using hq)
 refine part (fun h => ?_) (fun h => ?_)
 ·cbv
  subst hA hX hW
  refine ret_v ?_ rfl
  refine congrArg boolD (repliesX_false ?_).symm
  intro e
  injection e with e1 e2 e3 e4 e5
  subst e1 e2 e3 e4 e5
  simp [A0] at h
 ·cbv
  refine loopL (T := fun _ => tabY [51, 56] []) (H := fun _ => []) (tabY_ok _ _) noK_ok follows_mixed hA hX (fun i : Int => 0 ≤ i ∧ i ≤ ps.length ∧ ps.take i.toNat = qs.take i.toNat)
   (fun i => [(2, .ref 0 0 0), (3, .ref 1 0 0), (5, .d (.sc (.int .i64 i)))]) (fun _ => [⟨27, [.d (.sc (.int .i64 a_why)), .d (.sc (.bool a_found)), .d (.sc (.string a_value)), .d (.sc (.int .i64 a_version)), .d (.slc 3 a_pairs)], false, 0, true⟩, ⟨27, [.d (.sc (.int .i64 b_why)), .d (.sc (.bool b_found)), .d (.sc (.string b_value)), .d (.sc (.int .i64 b_version)), .d (.slc 3 b_pairs)], false, 0, true⟩])
   (fun i => (ps.length : Int).toNat - i.toNat) 0 ?_ ?_ ?_
  ·exact ⟨by omega, by omega, by simp⟩
  ·exact told_less (by simp [toldP, getS])
  rintro R i hR ⟨i0, i1, i2⟩
  cbv
  have hh : a_why = b_why ∧ a_found = b_found ∧ a_value = b_value ∧ a_version = b_version ∧ ps.length = qs.length := by
   subst hA
   simp only [A0] at h
   simp [hlx, hly] at h
   obtain ⟨⟨⟨⟨h1, h2⟩, h3⟩, h4⟩, h5⟩ := h
   exact ⟨h1, h2, h3, h4, by omega⟩
  refine part (fun h2 => ?_) (fun h2 => ?_)
  ·cbv
   replace hlx : a_pairs.length = ps.length := hlx
   replace hly : b_pairs.length = qs.length := hly
   replace i0 : 0 ≤ i := i0
   replace hl : ps.length ≤ 4194304 := hl
   replace hh : a_why = b_why ∧ a_found = b_found ∧ a_value = b_value ∧ a_version = b_version ∧ ps.length = qs.length := hh
   have hi : i < (ps.length : Int) := by
    subst hA
    simp only [A0, decide_eq_true_eq] at h2
    replace h2 : i < (a_pairs.length : Int) := h2
    omega
   have hj : i < (qs.length : Int) := by omega
   have hrx := prow hxs i0 hi
   have hry := prow hys i0 hj
   have hdx := List.take_succ_eq_append_getElem (show i.toNat < ps.length by omega)
   have hdy := List.take_succ_eq_append_getElem (show i.toNat < qs.length by omega)
   have hgx : ps[i.toNat]? = some (ps[i.toNat]'(by omega)) := List.getElem?_eq_getElem _
   have hgy : qs[i.toNat]? = some (qs[i.toNat]'(by omega)) := List.getElem?_eq_getElem _
   generalize ps[i.toNat]'(by omega) = p at hrx hdx hgx
   generalize qs[i.toNat]'(by omega) = q at hry hdy hgy
   repeat' first
    | (refine part (fun h3 => ?_) (fun h3 => ?_) <;> try cbv)
    | (refine And.intro ?_ ?_)
   all_goals subst hA hX hW hR
   all_goals first
    | (show Region.lexB _ _ = true; kernel_rfl)
    | rfl
    | (show 0 ≤ i ∧ i < (a_pairs.length : Int); omega)
    | (show 0 ≤ i ∧ i < (b_pairs.length : Int); omega)
    | (simp only [A0, hrx]; simp [Pair.row]; done)
    | (simp only [A0, hry]; simp [Pair.row]; done)
    | skip
   ·refine ret_v ?_ rfl
    refine congrArg boolD (repliesX_false ?_).symm
    intro e
    injection e with e1 e2 e3 e4 e5
    have e6 : ps = qs := by rw [← pairsOf_X ps, ← pairsOf_X qs, ← hxs, ← hys, e5]
    subst e6
    rw [hgx] at hgy
    have e7 : p = q := Option.some.inj hgy
    subst e7
    simp only [A0, hrx, hry] at h3
    simp [Pair.row] at h3
   ·have e7 : p = q := by
     simp only [A0, hrx, hry] at h3
     simp [Pair.row] at h3
     obtain ⟨p1, p2, p3⟩ := p
     obtain ⟨q1, q2, q3⟩ := q
     simp_all
    have hi' : i < (ps.length : Int) := hi
    have hl' : ps.length ≤ 4194304 := hl
    have i0' : 0 ≤ i := i0
    have hw : IntKind.wrap .i64 (i + 1) = i + 1 := wrap_i64 (by unfold r64; omega)
    refine ⟨i + 1, ⟨by omega, by omega, ?_⟩, by omega, told_less ?_⟩
    ·rw [show (i + 1).toNat = i.toNat + 1 by omega, hdx, hdy, i2, e7]
    ·simp [toldP, getS, A0, hw]
  ·cbv
   replace hlx : a_pairs.length = ps.length := hlx
   replace i1 : i ≤ (ps.length : Int) := i1
   replace hh : a_why = b_why ∧ a_found = b_found ∧ a_value = b_value ∧ a_version = b_version ∧ ps.length = qs.length := hh
   subst hA hX hW hR
   simp only [A0, decide_eq_false_iff_not] at h2
   replace h2 : ¬ i < (a_pairs.length : Int) := h2
   refine ret_v ?_ rfl
   have hil : i.toNat = ps.length := by omega
   rw [hil, List.take_length, hh.2.2.2.2, List.take_length] at i2
   obtain ⟨e1, e2, e3, e4, _⟩ := hh
   refine congrArg boolD (repliesX_true ?_).symm
   rw [e1, e2, e3, e4, hxs, hys, i2]
def kn_replies (F : FsOw) : FuncId × (List DV → RV) := (13, fun args => match args with
 | [.agg [.d (.sc (.int .i64 a_why)), .d (.sc (.bool a_found)), .d (.sc (.string a_value)), .d (.sc (.int .i64 a_version)), .d (.slc 3 a_pairs)], .agg [.d (.sc (.int .i64 b_why)), .d (.sc (.bool b_found)), .d (.sc (.string b_value)), .d (.sc (.int .i64 b_version)), .d (.slc 3 b_pairs)]] => some ([F.isP a_pairs, F.isP b_pairs], boolD ((F.replies ⟨a_why, a_found, a_value, a_version, a_pairs⟩ ⟨b_why, b_found, b_value, b_version, b_pairs⟩)))
 | [.agg [.d (.sc (.int .i64 a_why)), .d (.sc (.bool a_found)), .d (.sc (.string a_value)), .d (.sc (.int .i64 a_version)), .d (.sc (.slice none 0 0))], .agg [.d (.sc (.int .i64 b_why)), .d (.sc (.bool b_found)), .d (.sc (.string b_value)), .d (.sc (.int .i64 b_version)), .d (.slc 3 b_pairs)]] => some ([F.isP [], F.isP b_pairs], boolD ((F.replies ⟨a_why, a_found, a_value, a_version, []⟩ ⟨b_why, b_found, b_value, b_version, b_pairs⟩)))
 | [.agg [.d (.sc (.int .i64 a_why)), .d (.sc (.bool a_found)), .d (.sc (.string a_value)), .d (.sc (.int .i64 a_version)), .d (.slc 3 a_pairs)], .agg [.d (.sc (.int .i64 b_why)), .d (.sc (.bool b_found)), .d (.sc (.string b_value)), .d (.sc (.int .i64 b_version)), .d (.sc (.slice none 0 0))]] => some ([F.isP a_pairs, F.isP []], boolD ((F.replies ⟨a_why, a_found, a_value, a_version, a_pairs⟩ ⟨b_why, b_found, b_value, b_version, []⟩)))
 | [.agg [.d (.sc (.int .i64 a_why)), .d (.sc (.bool a_found)), .d (.sc (.string a_value)), .d (.sc (.int .i64 a_version)), .d (.sc (.slice none 0 0))], .agg [.d (.sc (.int .i64 b_why)), .d (.sc (.bool b_found)), .d (.sc (.string b_value)), .d (.sc (.int .i64 b_version)), .d (.sc (.slice none 0 0))]] => some ([F.isP [], F.isP []], boolD ((F.replies ⟨a_why, a_found, a_value, a_version, []⟩ ⟨b_why, b_found, b_value, b_version, []⟩)))
 | _ => none)
theorem ok_replies (args : List DV) (cs : List Prop) (r : DV) (h : (kn_replies FsOw0).2 args = some (cs, r)) (hc : allP cs True) : FnV Try.prog 13 args r ∧ closedL 0 args = true := by
 unfold kn_replies at h
 simp only at h
 split at h
 ·cases h; exact ⟨v_replies ⟨_, _, _, _, _⟩ ⟨_, _, _, _, _⟩ hc.1 hc.2.1, rfl⟩
 ·cases h; exact ⟨FnP.ups (v_replies ⟨_, _, _, _, []⟩ ⟨_, _, _, _, _⟩ hc.1 hc.2.1) (UpL.agg (UpL.keep (UpL.keep (UpL.keep (UpL.keep (UpL.nil UpL.done))))) (UpL.agg (UpL.keep (UpL.keep (UpL.keep (UpL.keep (UpL.keep UpL.done))))) UpL.done)), rfl⟩
 ·cases h; exact ⟨FnP.ups (v_replies ⟨_, _, _, _, _⟩ ⟨_, _, _, _, []⟩ hc.1 hc.2.1) (UpL.agg (UpL.keep (UpL.keep (UpL.keep (UpL.keep (UpL.keep UpL.done))))) (UpL.agg (UpL.keep (UpL.keep (UpL.keep (UpL.keep (UpL.nil UpL.done))))) UpL.done)), rfl⟩
 ·cases h; exact ⟨FnP.ups (v_replies ⟨_, _, _, _, []⟩ ⟨_, _, _, _, []⟩ hc.1 hc.2.1) (UpL.agg (UpL.keep (UpL.keep (UpL.keep (UpL.keep (UpL.nil UpL.done))))) (UpL.agg (UpL.keep (UpL.keep (UpL.keep (UpL.keep (UpL.nil UpL.done))))) UpL.done)), rfl⟩
 ·cases h
set_option maxRecDepth 100000 in
theorem v_look (cs : List DV) (client : Int) (seq : Int) (hp0 : isOwn cs) : FnV Try.prog 34 [.agg cs, intD client, intD seq] (.tup [intD (((lookX cs client seq)).1), Reply.D (((lookX cs client seq)).2)]) := by
 obtain ⟨os, hos, hcs, hop⟩ := hp0
 obtain ⟨F, hF⟩ : ∃ F, F = FsOw0 := ⟨_, rfl⟩
 have hH : SoundK Try.prog [kn_known F, kn_copied F] := by subst hF; exact orK_ok ok_known (orK_ok ok_copied noK_ok)
 refine FnD_cbv (T := fun _ => tabY [0, 15] []) (H := fun _ => [kn_known F, kn_copied F]) (tabY_ok _ _) hH follows_mixed Try.func34 rfl Try.ntmps34 (by simp) fun A X W hA hX hW => ?_
 clear hH
 cbv
 refine And.intro (by subst hA; show cs.length ≤ 1000000; rw [hcs, own_length]; omega) ?_
 refine part (fun hk => ?_) (fun hk => ?_) <;> cbv
 ·subst hA hX hW hF
  replace hk : knownX client = false := by simpa [A0, FsOw0] using hk
  refine ret_up ?_ rfl
  rw [lookX, hk]
  exact ⟨_, rfl, UpL.keep (UpL.agg (UpL.keep (UpL.keep (UpL.keep (UpL.keep (UpL.nil UpL.done))))) UpL.done)⟩
 ·have hk' : knownX client = true := by subst hA hF; simpa [A0, FsOw0] using hk
  obtain ⟨ew, k0, k1, o, eo, ho, g0, g1, g2, g3, g4, g5, gt, gl⟩ := own_at hos hcs hop hk'
  refine ⟨by subst hA; rfl, by subst hA; simp only [A0, ew]; exact ⟨k0, k1⟩, by subst hA; rfl, by subst hA; simp only [A0, ew, Nat.zero_add, g0, g1, g2, g3, g4, g5, gt]; exact ⟨rfl, gl, rfl⟩, ?_⟩
  refine part (fun h1 => ?_) (fun h1 => ?_) <;> try cbv
  ·subst hA hX hW hF
   simp only [A0, ew, Nat.zero_add, g0] at h1
   refine ret_up ?_ rfl
   rw [lookX, hk', eo, h1]
   exact ⟨_, rfl, UpL.keep (UpL.agg (UpL.keep (UpL.keep (UpL.keep (UpL.keep (UpL.nil UpL.done))))) UpL.done)⟩
  ·refine part (fun h2 => ?_) (fun h2 => ?_) <;> try cbv
   ·subst hA hX hW hF
    simp only [A0, ew, Nat.zero_add, g0] at h1 h2
    refine ⟨?_, ?_⟩
    ·show isP _
     simp only [A0, ew, Nat.zero_add, g5]
     exact ho
    ·refine ret_v ?_ rfl
     rw [lookX, hk', eo, h1, h2]
     simp only [A0, ew, Nat.zero_add, g1, g2, g3, g4, g5]
     rfl
   ·subst hA hX hW hF
    simp only [A0, ew, Nat.zero_add, g0] at h1 h2
    refine ret_up ?_ rfl
    rw [lookX, hk', eo, h1, h2]
    exact ⟨_, rfl, UpL.keep (UpL.agg (UpL.keep (UpL.keep (UpL.keep (UpL.keep (UpL.nil UpL.done))))) UpL.done)⟩
set_option maxRecDepth 100000 in
theorem v_note (cs : List DV) (client : Int) (seq : Int) (r : Reply) (hp0 : isOwn cs) (hp1 : FsOw0.isP r.pairs) : FnV Try.prog 36 [.agg cs, intD client, intD seq, Reply.D r] (.agg ((noteX cs client seq r))) := by
 obtain ⟨r_why, r_found, r_value, r_version, r_pairs⟩ := r
 obtain ⟨os, hos, hcs, hop⟩ := hp0
 have hds := noteX_D hos hcs client seq ⟨r_why, r_found, r_value, r_version, r_pairs⟩
 have hos' : (noteOs os client seq ⟨r_why, r_found, r_value, r_version, r_pairs⟩).length = 8 := (noteOs_length _ _ _ _).trans hos
 have hop' := noteOs_isP hop (r := ⟨r_why, r_found, r_value, r_version, r_pairs⟩) hp1 client seq
 obtain ⟨os', heo⟩ : ∃ os', os' = noteOs os client seq ⟨r_why, r_found, r_value, r_version, r_pairs⟩ := ⟨_, rfl⟩
 obtain ⟨ds, hde⟩ : ∃ ds, ds = noteX cs client seq ⟨r_why, r_found, r_value, r_version, r_pairs⟩ := ⟨_, rfl⟩
 rw [← heo] at hds hos' hop'
 rw [← hde] at hds
 obtain ⟨F, hF⟩ : ∃ F, F = FsOw0 := ⟨_, rfl⟩
 have hH : SoundK Try.prog [kn_known F, kn_copied F] := by subst hF; exact orK_ok ok_known (orK_ok ok_copied noK_ok)
 refine FnD_cbv (T := fun _ => tabY [0, 4, 17, 23, 24, 27, 28] []) (H := fun _ => [kn_known F, kn_copied F]) (tabY_ok _ _) hH follows_mixed Try.func36 rfl Try.ntmps36 (by simp) fun A X W hA hX hW => ?_
 cbv
 refine And.intro (by subst hA; show cs.length ≤ 1000000; rw [hcs, own_length]; omega) ?_
 refine part (fun hk => ?_) (fun hk => ?_) <;> cbv
 ·have hk' : knownX client = true := by subst hA hF; simpa [A0, FsOw0] using hk
  obtain ⟨ew, k0, k1, o, eo, ho, g0, g1, g2, g3, g4, g5, gt, gl⟩ := own_at hos hcs hop hk'
  have e : A.spl cs (A.off 0 (A.bin .sub .i64 client 1) 6) [.d (.sc (.int .i64 seq)), .d (.sc (.int .i64 r_why)), .d (.sc (.bool r_found)), .d (.sc (.string r_value)), .d (.sc (.int .i64 r_version)), .d (.slc 3 r_pairs)] = ds := by
   subst hA
   rw [hde, noteX, hk']
   simp only [A0, ew, Nat.zero_add]
   rfl
  refine ⟨by subst hA; rfl, by subst hA; simp only [A0, ew]; exact ⟨k0, k1⟩, by subst hA; rfl, by subst hA; simp only [A0, ew, Nat.zero_add]; exact gl, ?_⟩
  refine loopL (T := fun _ => tabY [0, 4, 17, 23, 24, 27, 28] []) (H := fun _ => [kn_known F, kn_copied F]) (tabY_ok _ _) hH follows_mixed hA hX (fun i : Int => 0 ≤ i ∧ i ≤ 8)
   (fun i => [(4, .ref 0 0 0), (8, .ref 2 0 0), (18, .d (.sc (.int .i64 i)))]) (fun _ => [⟨30, ds, false, 0, true⟩, ⟨27, [.d (.sc (.int .i64 r_why)), .d (.sc (.bool r_found)), .d (.sc (.string r_value)), .d (.sc (.int .i64 r_version)), .d (.slc 3 r_pairs)], false, 0, true⟩, ⟨30, [.d (.sc (.int .i64 0)), .d (.sc (.int .i64 0)), .d (.sc (.bool false)), .d (.sc (.string none8)), .d (.sc (.int .i64 0)), .d (.sc (.slice none 0 0)), .d (.sc (.int .i64 0)), .d (.sc (.int .i64 0)), .d (.sc (.bool false)), .d (.sc (.string none8)), .d (.sc (.int .i64 0)), .d (.sc (.slice none 0 0)), .d (.sc (.int .i64 0)), .d (.sc (.int .i64 0)), .d (.sc (.bool false)), .d (.sc (.string none8)), .d (.sc (.int .i64 0)), .d (.sc (.slice none 0 0)), .d (.sc (.int .i64 0)), .d (.sc (.int .i64 0)), .d (.sc (.bool false)), .d (.sc (.string none8)), .d (.sc (.int .i64 0)), .d (.sc (.slice none 0 0)), .d (.sc (.int .i64 0)), .d (.sc (.int .i64 0)), .d (.sc (.bool false)), .d (.sc (.string none8)), .d (.sc (.int .i64 0)), .d (.sc (.slice none 0 0)), .d (.sc (.int .i64 0)), .d (.sc (.int .i64 0)), .d (.sc (.bool false)), .d (.sc (.string none8)), .d (.sc (.int .i64 0)), .d (.sc (.slice none 0 0)), .d (.sc (.int .i64 0)), .d (.sc (.int .i64 0)), .d (.sc (.bool false)), .d (.sc (.string none8)), .d (.sc (.int .i64 0)), .d (.sc (.slice none 0 0)), .d (.sc (.int .i64 0)), .d (.sc (.int .i64 0)), .d (.sc (.bool false)), .d (.sc (.string none8)), .d (.sc (.int .i64 0)), .d (.sc (.slice none 0 0))], false, 0, true⟩])
   (fun i => 8 - i.toNat) 0 ?_ ?_ ?_
  ·exact ⟨by omega, by omega⟩
  ·exact told_eq (congrArg (fun z => [(⟨30, z, false, 0, true⟩ : Box), ⟨27, [.d (.sc (.int .i64 r_why)), .d (.sc (.bool r_found)), .d (.sc (.string r_value)), .d (.sc (.int .i64 r_version)), .d (.slc 3 r_pairs)], false, 0, true⟩, ⟨30, [.d (.sc (.int .i64 0)), .d (.sc (.int .i64 0)), .d (.sc (.bool false)), .d (.sc (.string none8)), .d (.sc (.int .i64 0)), .d (.sc (.slice none 0 0)), .d (.sc (.int .i64 0)), .d (.sc (.int .i64 0)), .d (.sc (.bool false)), .d (.sc (.string none8)), .d (.sc (.int .i64 0)), .d (.sc (.slice none 0 0)), .d (.sc (.int .i64 0)), .d (.sc (.int .i64 0)), .d (.sc (.bool false)), .d (.sc (.string none8)), .d (.sc (.int .i64 0)), .d (.sc (.slice none 0 0)), .d (.sc (.int .i64 0)), .d (.sc (.int .i64 0)), .d (.sc (.bool false)), .d (.sc (.string none8)), .d (.sc (.int .i64 0)), .d (.sc (.slice none 0 0)), .d (.sc (.int .i64 0)), .d (.sc (.int .i64 0)), .d (.sc (.bool false)), .d (.sc (.string none8)), .d (.sc (.int .i64 0)), .d (.sc (.slice none 0 0)), .d (.sc (.int .i64 0)), .d (.sc (.int .i64 0)), .d (.sc (.bool false)), .d (.sc (.string none8)), .d (.sc (.int .i64 0)), .d (.sc (.slice none 0 0)), .d (.sc (.int .i64 0)), .d (.sc (.int .i64 0)), .d (.sc (.bool false)), .d (.sc (.string none8)), .d (.sc (.int .i64 0)), .d (.sc (.slice none 0 0)), .d (.sc (.int .i64 0)), .d (.sc (.int .i64 0)), .d (.sc (.bool false)), .d (.sc (.string none8)), .d (.sc (.int .i64 0)), .d (.sc (.slice none 0 0))], false, 0, true⟩]) e) (by simp [toldP, getS])
  rintro R i hR ⟨i0, i1⟩
  cbv
  refine part (fun h2 => ?_) (fun h2 => ?_) <;> cbv
  ·replace i0 : 0 ≤ i := i0
   replace hos' : os'.length = 8 := hos'
   have hi : i < 8 := by
    subst hA
    simp only [A0, decide_eq_true_eq] at h2
    exact h2
   have hin : i.toNat < os'.length := by omega
   obtain ⟨g0, g1, g2, g3, g4, g5, gt, gl⟩ := own_cell hds i.toNat hin
   have gt1 := own_tail hds i.toNat hin
   have ho := hop' _ (List.getElem_mem hin)
   generalize os'[i.toNat]'hin = o at g0 g1 g2 g3 g4 g5 gt gt1 ho
   have q2 : ds[i.toNat * 6 + 1 + 1]? = some (.d (.sc (.bool o.reply.found))) := g2
   have q3 : ds[i.toNat * 6 + 1 + 2]? = some (.d (.sc (.string o.reply.value))) := g3
   have q4 : ds[i.toNat * 6 + 1 + 3]? = some (.d (.sc (.int .i64 o.reply.version))) := g4
   have q5 : ds[i.toNat * 6 + 1 + 4]? = some (.d (.slc 3 o.reply.pairs)) := g5
   subst hA hX hW hR hF
   refine ⟨rfl, ⟨i0, hi⟩, rfl, rfl, ?_, ?_, rfl, ⟨i0, hi⟩, rfl, rfl, ?_, ?_⟩
   ·simp only [A0, Nat.zero_add, g1, q2, q3, q4, q5, gt1]
    exact ⟨rfl, by omega, trivial⟩
   ·show isP _
    simp only [A0, Nat.zero_add, q5]
    exact ho
   ·simp only [A0, Nat.zero_add]
    omega
   ·have hw : IntKind.wrap .i64 (i + 1) = i + 1 := wrap_i64 (by unfold r64; omega)
    have e2 : splice ds (i.toNat * 6 + 1) [.d (.sc (.int .i64 o.reply.why)), .d (.sc (.bool o.reply.found)), .d (.sc (.string o.reply.value)), .d (.sc (.int .i64 o.reply.version)), .d (.slc 3 o.reply.pairs)] = ds := splice_same gt1 rfl
    refine ⟨i + 1, ⟨by omega, by omega⟩, by omega, ?_⟩
    simp only [A0, FsOw0, idR, Nat.zero_add, g1, q2, q3, q4, q5, e2, hw]
    exact told_less (by simp [toldP, getS])
  ·obtain ⟨o0, o1, o2, o3, o4, o5, o6, o7, e8⟩ := list8 hos'
   clear hop' heo
   replace hde : ds = noteX cs client seq ⟨r_why, r_found, r_value, r_version, r_pairs⟩ := hde
   subst hA hX hW hR hF
   rw [← hde]
   clear hde
   subst e8
   subst hds
   exact ⟨rfl, ⟨rfl, Nat.le_refl _, rfl⟩, ret_v rfl rfl⟩
 ·have hk' : knownX client = false := by subst hA hF; simpa [A0, FsOw0] using hk
  have e : cs = ds := by
   rw [hde, noteX, hk']
   rfl
  refine loopL (T := fun _ => tabY [0, 4, 17, 23, 24, 27, 28] []) (H := fun _ => [kn_known F, kn_copied F]) (tabY_ok _ _) hH follows_mixed hA hX (fun i : Int => 0 ≤ i ∧ i ≤ 8)
   (fun i => [(4, .ref 0 0 0), (8, .ref 2 0 0), (18, .d (.sc (.int .i64 i)))]) (fun _ => [⟨30, ds, false, 0, true⟩, ⟨27, [.d (.sc (.int .i64 r_why)), .d (.sc (.bool r_found)), .d (.sc (.string r_value)), .d (.sc (.int .i64 r_version)), .d (.slc 3 r_pairs)], false, 0, true⟩, ⟨30, [.d (.sc (.int .i64 0)), .d (.sc (.int .i64 0)), .d (.sc (.bool false)), .d (.sc (.string none8)), .d (.sc (.int .i64 0)), .d (.sc (.slice none 0 0)), .d (.sc (.int .i64 0)), .d (.sc (.int .i64 0)), .d (.sc (.bool false)), .d (.sc (.string none8)), .d (.sc (.int .i64 0)), .d (.sc (.slice none 0 0)), .d (.sc (.int .i64 0)), .d (.sc (.int .i64 0)), .d (.sc (.bool false)), .d (.sc (.string none8)), .d (.sc (.int .i64 0)), .d (.sc (.slice none 0 0)), .d (.sc (.int .i64 0)), .d (.sc (.int .i64 0)), .d (.sc (.bool false)), .d (.sc (.string none8)), .d (.sc (.int .i64 0)), .d (.sc (.slice none 0 0)), .d (.sc (.int .i64 0)), .d (.sc (.int .i64 0)), .d (.sc (.bool false)), .d (.sc (.string none8)), .d (.sc (.int .i64 0)), .d (.sc (.slice none 0 0)), .d (.sc (.int .i64 0)), .d (.sc (.int .i64 0)), .d (.sc (.bool false)), .d (.sc (.string none8)), .d (.sc (.int .i64 0)), .d (.sc (.slice none 0 0)), .d (.sc (.int .i64 0)), .d (.sc (.int .i64 0)), .d (.sc (.bool false)), .d (.sc (.string none8)), .d (.sc (.int .i64 0)), .d (.sc (.slice none 0 0)), .d (.sc (.int .i64 0)), .d (.sc (.int .i64 0)), .d (.sc (.bool false)), .d (.sc (.string none8)), .d (.sc (.int .i64 0)), .d (.sc (.slice none 0 0))], false, 0, true⟩])
   (fun i => 8 - i.toNat) 0 ?_ ?_ ?_
  ·exact ⟨by omega, by omega⟩
  ·exact told_eq (congrArg (fun z => [(⟨30, z, false, 0, true⟩ : Box), ⟨27, [.d (.sc (.int .i64 r_why)), .d (.sc (.bool r_found)), .d (.sc (.string r_value)), .d (.sc (.int .i64 r_version)), .d (.slc 3 r_pairs)], false, 0, true⟩, ⟨30, [.d (.sc (.int .i64 0)), .d (.sc (.int .i64 0)), .d (.sc (.bool false)), .d (.sc (.string none8)), .d (.sc (.int .i64 0)), .d (.sc (.slice none 0 0)), .d (.sc (.int .i64 0)), .d (.sc (.int .i64 0)), .d (.sc (.bool false)), .d (.sc (.string none8)), .d (.sc (.int .i64 0)), .d (.sc (.slice none 0 0)), .d (.sc (.int .i64 0)), .d (.sc (.int .i64 0)), .d (.sc (.bool false)), .d (.sc (.string none8)), .d (.sc (.int .i64 0)), .d (.sc (.slice none 0 0)), .d (.sc (.int .i64 0)), .d (.sc (.int .i64 0)), .d (.sc (.bool false)), .d (.sc (.string none8)), .d (.sc (.int .i64 0)), .d (.sc (.slice none 0 0)), .d (.sc (.int .i64 0)), .d (.sc (.int .i64 0)), .d (.sc (.bool false)), .d (.sc (.string none8)), .d (.sc (.int .i64 0)), .d (.sc (.slice none 0 0)), .d (.sc (.int .i64 0)), .d (.sc (.int .i64 0)), .d (.sc (.bool false)), .d (.sc (.string none8)), .d (.sc (.int .i64 0)), .d (.sc (.slice none 0 0)), .d (.sc (.int .i64 0)), .d (.sc (.int .i64 0)), .d (.sc (.bool false)), .d (.sc (.string none8)), .d (.sc (.int .i64 0)), .d (.sc (.slice none 0 0)), .d (.sc (.int .i64 0)), .d (.sc (.int .i64 0)), .d (.sc (.bool false)), .d (.sc (.string none8)), .d (.sc (.int .i64 0)), .d (.sc (.slice none 0 0))], false, 0, true⟩]) e) (by simp [toldP, getS])
  rintro R i hR ⟨i0, i1⟩
  cbv
  refine part (fun h2 => ?_) (fun h2 => ?_) <;> cbv
  ·replace i0 : 0 ≤ i := i0
   replace hos' : os'.length = 8 := hos'
   have hi : i < 8 := by
    subst hA
    simp only [A0, decide_eq_true_eq] at h2
    exact h2
   have hin : i.toNat < os'.length := by omega
   obtain ⟨g0, g1, g2, g3, g4, g5, gt, gl⟩ := own_cell hds i.toNat hin
   have gt1 := own_tail hds i.toNat hin
   have ho := hop' _ (List.getElem_mem hin)
   generalize os'[i.toNat]'hin = o at g0 g1 g2 g3 g4 g5 gt gt1 ho
   have q2 : ds[i.toNat * 6 + 1 + 1]? = some (.d (.sc (.bool o.reply.found))) := g2
   have q3 : ds[i.toNat * 6 + 1 + 2]? = some (.d (.sc (.string o.reply.value))) := g3
   have q4 : ds[i.toNat * 6 + 1 + 3]? = some (.d (.sc (.int .i64 o.reply.version))) := g4
   have q5 : ds[i.toNat * 6 + 1 + 4]? = some (.d (.slc 3 o.reply.pairs)) := g5
   subst hA hX hW hR hF
   refine ⟨rfl, ⟨i0, hi⟩, rfl, rfl, ?_, ?_, rfl, ⟨i0, hi⟩, rfl, rfl, ?_, ?_⟩
   ·simp only [A0, Nat.zero_add, g1, q2, q3, q4, q5, gt1]
    exact ⟨rfl, by omega, trivial⟩
   ·show isP _
    simp only [A0, Nat.zero_add, q5]
    exact ho
   ·simp only [A0, Nat.zero_add]
    omega
   ·have hw : IntKind.wrap .i64 (i + 1) = i + 1 := wrap_i64 (by unfold r64; omega)
    have e2 : splice ds (i.toNat * 6 + 1) [.d (.sc (.int .i64 o.reply.why)), .d (.sc (.bool o.reply.found)), .d (.sc (.string o.reply.value)), .d (.sc (.int .i64 o.reply.version)), .d (.slc 3 o.reply.pairs)] = ds := splice_same gt1 rfl
    refine ⟨i + 1, ⟨by omega, by omega⟩, by omega, ?_⟩
    simp only [A0, FsOw0, idR, Nat.zero_add, g1, q2, q3, q4, q5, e2, hw]
    exact told_less (by simp [toldP, getS])
  ·obtain ⟨o0, o1, o2, o3, o4, o5, o6, o7, e8⟩ := list8 hos'
   clear hop' heo
   replace hde : ds = noteX cs client seq ⟨r_why, r_found, r_value, r_version, r_pairs⟩ := hde
   subst hA hX hW hR hF
   rw [← hde]
   clear hde
   subst e8
   subst hds
   exact ⟨rfl, ⟨rfl, Nat.le_refl _, rfl⟩, ret_v rfl rfl⟩
set_option maxRecDepth 100000 in
theorem v_rightO (cs : List DV) (hp0 : isOwn cs) : FnV Try.prog 42 [.agg cs] (boolD ((rightO cs))) := by
 obtain ⟨os, hos, hcs, hop⟩ := hp0
 have hof := ownersOf_D hos hcs
 obtain ⟨F, hF⟩ : ∃ F, F = FsOw0 := ⟨_, rfl⟩
 have hH : SoundK Try.prog [kn_rrep F, kn_zero F] := by subst hF; exact orK_ok ok_rrep (orK_ok ok_zero noK_ok)
 refine FnD_cbv (T := fun _ => tabY [0, 1] []) (H := fun _ => [kn_rrep F, kn_zero F]) (tabY_ok _ _) hH follows_mixed Try.func42 rfl Try.ntmps42 (by simp) fun A X W hA hX hW => ?_
 cbv
 refine ⟨by subst hA; show cs.length ≤ 1000000; rw [hcs, own_length]; omega, by subst hA; rfl, ?_, ?_⟩
 ·clear hop hof
  subst hA
  obtain ⟨o0, o1, o2, o3, o4, o5, o6, o7, e8⟩ := list8 hos
  subst e8
  subst hcs
  exact ⟨rfl, Nat.le_refl _, rfl⟩
 refine loopL (T := fun _ => tabY [0, 1] []) (H := fun _ => [kn_rrep F, kn_zero F]) (tabY_ok _ _) hH follows_mixed hA hX (fun i : Int => 0 ≤ i ∧ i ≤ 8 ∧ rightOs os = rightOs (os.drop i.toNat))
  (fun i => [(5, .agg cs), (6, .d (.sc (.int .i64 i)))]) (fun _ => [⟨30, cs, false, 0, true⟩])
  (fun i => 8 - i.toNat) 0 ?_ ?_ ?_
 ·exact ⟨by omega, by omega, rfl⟩
 ·clear hop hof
  subst hA
  obtain ⟨o0, o1, o2, o3, o4, o5, o6, o7, e8⟩ := list8 hos
  subst e8
  subst hcs
  exact told_less ⟨.inl rfl, .inl rfl, trivial⟩
 rintro R i hR ⟨i0, i1, i2⟩
 cbv
 refine part (fun h2 => ?_) (fun h2 => ?_) <;> cbv
 ·replace i0 : 0 ≤ i := i0
  replace hos : os.length = 8 := hos
  have hi : i < 8 := by
   subst hA
   simp only [A0, decide_eq_true_eq] at h2
   exact h2
  have hin : i.toNat < os.length := by omega
  obtain ⟨g0, g1, g2, g3, g4, g5, gt, gl⟩ := own_cell hcs i.toNat hin
  have ho := hop _ (List.getElem_mem hin)
  have hd := odrop i0 hin
  generalize os[i.toNat]'hin = o at g0 g1 g2 g3 g4 g5 gt ho hd
  rw [hd] at i2
  have i3 : rightOs (o :: os.drop (i + 1).toNat) = (okO o && rightOs (os.drop (i + 1).toNat)) := rfl
  rw [i3] at i2
  repeat' first
   | (refine part (fun h3 => ?_) (fun h3 => ?_) <;> try cbv)
   | (refine And.intro ?_ ?_)
  all_goals subst hA hX hW hR hF
  all_goals first
   | rfl
   | exact ⟨i0, hi⟩
   | (simp only [A0, Nat.zero_add, g0, g1, g2, g3, g4, g5, gt]; exact ⟨rfl, gl, rfl⟩)
   | (intro _; trivial)
   | (intro hq; exact hq)
   | (intro hq; simpa [A0] using hq)
   | (intro _; show isP _; simp only [A0, Nat.zero_add, g5]; exact ho)
   | skip
  ·simp only [A0, FsOw0, Nat.zero_add, g0, g1, g2, g3, g4, g5] at h3
   have hk : okO o = false := (okO_eq o).trans (congrArg Bool.not h3)
   rw [hk] at i2
   refine ret_v ?_ rfl
   rw [rightO, hof, i2]
   rfl
  ·simp only [A0, FsOw0, Nat.zero_add, g0, g1, g2, g3, g4, g5] at h3
   have hk : okO o = true := (okO_eq o).trans (congrArg Bool.not h3)
   rw [hk, Bool.true_and] at i2
   have hw : IntKind.wrap .i64 (i + 1) = i + 1 := wrap_i64 (by unfold r64; omega)
   refine ⟨i + 1, ⟨by omega, by omega, i2⟩, by omega, told_keep [0] rfl (by simp [keepSt, pullBox, own_pull [0] hcs, own_pullL [0] hcs]) ?_⟩
   simp [toldP, getS, A0, hw, pullD, own_pullL [0] hcs]
 ·replace i1 : i ≤ 8 := i1
  replace hos : os.length = 8 := hos
  subst hA hX hW hR hF
  simp only [A0, decide_eq_false_iff_not] at h2
  replace h2 : ¬ i < 8 := h2
  refine ret_v ?_ rfl
  have hil : i.toNat = os.length := by omega
  rw [hil, List.drop_length] at i2
  rw [rightO, hof, i2]
  rfl
set_option maxRecDepth 100000 in
theorem v_state (xs : List (List PD)) (cs : List DV) (hp0 : isP xs) (hp1 : isOwn cs) : FnV Try.prog 76 [.agg (.d (.slc 3 xs) :: cs)] (boolD (stateX xs cs)) := by
 obtain ⟨os, hos, hcs, hop⟩ := hp1
 have hof := ownersOf_D hos hcs
 obtain ⟨F, hF⟩ : ∃ F, F = FsOw0 := ⟨_, rfl⟩
 obtain ⟨GFsK, hGFsK⟩ : ∃ F, F = FsK0 := ⟨_, rfl⟩
 have hH : SoundK Try.prog [kn_rrepR F, kn_replies F, kn_rightR GFsK] := by subst hF hGFsK; exact orK_ok ok_rrepR (orK_ok ok_replies (orK_ok ok_rightR noK_ok))
 refine FnD_cbv (T := fun _ => tabY [0, 11] []) (H := fun _ => [kn_rrepR F, kn_replies F, kn_rightR GFsK]) (tabY_ok _ _) hH follows_mixed Try.func76 rfl Try.ntmps76 (by simp) fun A X W hA hX hW => ?_
 cbv
 refine And.intro (by subst hA; show (_ :: cs).length ≤ 1000000; rw [List.length_cons, hcs, own_length]; omega) ?_
 refine loopL (T := fun _ => tabY [0, 11] []) (H := fun _ => [kn_rrepR F, kn_replies F, kn_rightR GFsK]) (tabY_ok _ _) hH follows_mixed hA hX (fun i : Int => 0 ≤ i ∧ i ≤ 8 ∧ rightOs os = rightOs (os.drop i.toNat))
  (fun i => [(1, .ref 0 0 0), (3, .d (.sc (.int .i64 i)))]) (fun _ => [⟨32, .d (.slc 3 xs) :: cs, false, 0, true⟩])
  (fun i => 8 - i.toNat) 0 ?_ ?_ ?_
 ·exact ⟨by omega, by omega, rfl⟩
 ·exact told_less ⟨.inl rfl, .inl rfl, trivial⟩
 rintro R i hR ⟨i0, i1, i2⟩
 cbv
 refine part (fun h2 => ?_) (fun h2 => ?_) <;> cbv
 ·replace i0 : 0 ≤ i := i0
  replace hos : os.length = 8 := hos
  have hi : i < 8 := by
   subst hA
   simp only [A0, decide_eq_true_eq] at h2
   exact h2
  have hin : i.toNat < os.length := by omega
  obtain ⟨g0, g1, g2, g3, g4, g5, gt, gl⟩ := own_cell hcs i.toNat hin
  have ho := hop _ (List.getElem_mem hin)
  have hd := odrop i0 hin
  generalize os[i.toNat]'hin = o at g0 g1 g2 g3 g4 g5 gt ho hd
  rw [hd] at i2
  have i3 : rightOs (o :: os.drop (i + 1).toNat) = (okO o && rightOs (os.drop (i + 1).toNat)) := rfl
  rw [i3] at i2
  have q : ∀ j, (DV.d (.slc 3 xs) :: cs)[1 + i.toNat * 6 + j]? = cs[i.toNat * 6 + j]? := fun j => by
   rw [show 1 + i.toNat * 6 + j = (i.toNat * 6 + j) + 1 by omega, List.getElem?_cons_succ]
  have q0 : (DV.d (.slc 3 xs) :: cs)[1 + i.toNat * 6]? = _ := (q 0).trans g0
  have q1 := (q 1).trans g1
  have q2 := (q 2).trans g2
  have q3 := (q 3).trans g3
  have q4 := (q 4).trans g4
  have q5 := (q 5).trans g5
  have qt : ((DV.d (.slc 3 xs) :: cs).drop (1 + i.toNat * 6)).take 6 = o.cells := by rw [Nat.add_comm 1, List.drop_succ_cons]; exact gt
  clear g0 g1 g2 g3 g4 g5 gt q
  repeat' first
   | (refine part (fun h3 => ?_) (fun h3 => ?_) <;> try cbv)
   | (refine And.intro ?_ ?_)
  all_goals subst hA hX hW hR hGFsK hF
  all_goals first
   | (show Region.lexB _ _ = true; kernel_rfl)
   | rfl
   | exact ⟨i0, hi⟩
   | (simp only [A0, q0, q1, q2, q3, q4, q5, qt]; exact ⟨rfl, by rw [List.length_cons]; omega, rfl⟩)
   | (intro _; trivial)
   | (intro hq; exact hq)
   | (intro hq; simpa [A0] using hq)
   | (intro _; show isP _; simp only [A0, q5]; exact ho)
   | (intro _; exact isP.nil)
   | skip
  ·simp only [A0, FsOw0, q0, q1, q2, q3, q4, q5] at h3
   have hk : okO o = false := by
    rw [okO_eq, ← replies_zero]
    exact congrArg Bool.not h3
   rw [hk] at i2
   refine ret_v ?_ rfl
   rw [stateX, hof, i2]
   rfl
  ·simp only [A0, FsOw0, q0, q1, q2, q3, q4, q5] at h3
   have hk : okO o = true := by
    rw [okO_eq, ← replies_zero]
    exact congrArg Bool.not h3
   rw [hk, Bool.true_and] at i2
   have hw : IntKind.wrap .i64 (i + 1) = i + 1 := wrap_i64 (by unfold r64; omega)
   refine ⟨i + 1, ⟨by omega, by omega, i2⟩, by omega, told_keep [0] rfl (by simp [keepSt, pullBox, pullL, pullD, own_pull [0] hcs, own_pullL [0] hcs]) ?_⟩
   simp [toldP, getS, A0, hw, pullD, own_pullL [0] hcs]
 ·replace i1 : i ≤ 8 := i1
  replace hos : os.length = 8 := hos
  subst hA hX hW hR hGFsK hF
  simp only [A0, decide_eq_false_iff_not] at h2
  replace h2 : ¬ i < 8 := h2
  refine ⟨hp0, ret_v ?_ rfl⟩
  have hil : i.toNat = os.length := by omega
  rw [hil, List.drop_length] at i2
  rw [stateX, hof, i2]
  rfl
theorem v_lookU (cs : List DV) (client seq : Int) (h : isOwnU cs) : FnV Try.prog 34 [.agg cs, intD client, intD seq] (.tup [intD (lookU cs client seq).1, Reply.D (lookU cs client seq).2]) := FnP.ups (v_look _ client seq h) (UpL.agg (upL_upCs cs) (UpL.refl' _))
theorem v_noteU (cs : List DV) (client seq : Int) (r : Reply) (h : isOwnU cs) (hr : isP r.pairs) : FnV Try.prog 36 [.agg cs, intD client, intD seq, Reply.D r] (.agg (noteU cs client seq r)) := FnP.ups (v_note _ client seq r h hr) (UpL.agg (upL_upCs cs) (UpL.refl' _))
theorem v_rightU (cs : List DV) (h : isOwnU cs) : FnV Try.prog 42 [.agg cs] (boolD (rightU cs)) := FnP.ups (v_rightO _ h) (UpL.agg (upL_upCs cs) UpL.done)
end Go.Proofs.Ytadnpgkddgbhkaa
namespace Go.Proofs.Ytadnpgkddgbhkaa
open Go.RowKit
set_option linter.all false
theorem isOwnU.len {cs : List DV} (h : isOwnU cs) : cs.length = 48 := by
 obtain ⟨os, h1, h2, _⟩ := h
 have h3 := congrArg List.length h2
 rw [own_length, upCs, List.length_map] at h3
 omega
theorem isOwnU.look {cs : List DV} (h : isOwnU cs) (client seq : Int) : isP (lookU cs client seq).2.pairs := by
 obtain ⟨os, hos, hcs, hop⟩ := h
 unfold lookU lookX
 cases hk : knownX client with
 | false => exact isP.nil
 | true =>
   obtain ⟨_, _, _, o, eo, ho, _⟩ := own_at hos hcs hop hk
   rw [eo]
   simp only [cond_true]
   cases decide (o.seq < seq) with
   | true => exact isP.nil
   | false =>
     cases decide (seq = o.seq) with
     | true => exact ho
     | false => exact isP.nil
def Z48 : List DV := [.d (.sc (.int .i64 0)), .d (.sc (.int .i64 0)), .d (.sc (.bool false)), .d (.sc (.string none8)), .d (.sc (.int .i64 0)), .d (.sc (.slice none 0 0)), .d (.sc (.int .i64 0)), .d (.sc (.int .i64 0)), .d (.sc (.bool false)), .d (.sc (.string none8)), .d (.sc (.int .i64 0)), .d (.sc (.slice none 0 0)), .d (.sc (.int .i64 0)), .d (.sc (.int .i64 0)), .d (.sc (.bool false)), .d (.sc (.string none8)), .d (.sc (.int .i64 0)), .d (.sc (.slice none 0 0)), .d (.sc (.int .i64 0)), .d (.sc (.int .i64 0)), .d (.sc (.bool false)), .d (.sc (.string none8)), .d (.sc (.int .i64 0)), .d (.sc (.slice none 0 0)), .d (.sc (.int .i64 0)), .d (.sc (.int .i64 0)), .d (.sc (.bool false)), .d (.sc (.string none8)), .d (.sc (.int .i64 0)), .d (.sc (.slice none 0 0)), .d (.sc (.int .i64 0)), .d (.sc (.int .i64 0)), .d (.sc (.bool false)), .d (.sc (.string none8)), .d (.sc (.int .i64 0)), .d (.sc (.slice none 0 0)), .d (.sc (.int .i64 0)), .d (.sc (.int .i64 0)), .d (.sc (.bool false)), .d (.sc (.string none8)), .d (.sc (.int .i64 0)), .d (.sc (.slice none 0 0)), .d (.sc (.int .i64 0)), .d (.sc (.int .i64 0)), .d (.sc (.bool false)), .d (.sc (.string none8)), .d (.sc (.int .i64 0)), .d (.sc (.slice none 0 0))]
theorem isOwnU.note {cs : List DV} (h : isOwnU cs) {r : Reply} (hr : isP r.pairs) (client seq : Int) : isOwn (noteU cs client seq r) := by
 obtain ⟨os, hos, hcs, hop⟩ := h
 exact ⟨noteOs os client seq r, (noteOs_length _ _ _ _).trans hos, noteX_D hos hcs client seq r, noteOs_isP hop hr client seq⟩
theorem isOwn.len {cs : List DV} (h : isOwn cs) : cs.length = 48 := isOwnU.len h.u
structure FsD where
 lookU : List DV → Int → Int → Int × Reply
 noteU : List DV → Int → Int → Reply → List DV
 rightU : List DV → Bool
 isOwn : List DV → Prop
 isP : List (List PD) → Prop
noncomputable def FsD0 : FsD where
 lookU := lookU
 noteU := noteU
 rightU := rightU
 isOwn := isOwnU
 isP := isP
def kn_lookU (F : FsD) : FuncId × (List DV → RV) := (34, fun args => match args with
 | [.agg cs, .d (.sc (.int .i64 client)), .d (.sc (.int .i64 seq))] => some ([F.isOwn cs], .tup [intD (((F.lookU cs client seq)).1), Reply.D (((F.lookU cs client seq)).2)])
 | _ => none)
theorem ok_lookU (args : List DV) (cs : List Prop) (r : DV) (h : (kn_lookU FsD0).2 args = some (cs, r)) (hc : allP cs True) : FnV Try.prog 34 args r ∧ closedL 0 args = true := by
 unfold kn_lookU at h
 simp only at h
 split at h
 ·cases h; exact ⟨v_lookU _ _ _ hc.1, clo1 (isOwnU.closed hc.1) rfl⟩
 ·cases h
def kn_noteU (F : FsD) : FuncId × (List DV → RV) := (36, fun args => match args with
 | [.agg cs, .d (.sc (.int .i64 client)), .d (.sc (.int .i64 seq)), .agg [.d (.sc (.int .i64 r_why)), .d (.sc (.bool r_found)), .d (.sc (.string r_value)), .d (.sc (.int .i64 r_version)), .d (.slc 3 r_pairs)]] => some ([F.isOwn cs, F.isP r_pairs], .agg ((F.noteU cs client seq ⟨r_why, r_found, r_value, r_version, r_pairs⟩)))
 | [.agg cs, .d (.sc (.int .i64 client)), .d (.sc (.int .i64 seq)), .agg [.d (.sc (.int .i64 r_why)), .d (.sc (.bool r_found)), .d (.sc (.string r_value)), .d (.sc (.int .i64 r_version)), .d (.sc (.slice none 0 0))]] => some ([F.isOwn cs, F.isP []], .agg ((F.noteU cs client seq ⟨r_why, r_found, r_value, r_version, []⟩)))
 | _ => none)
theorem ok_noteU (args : List DV) (cs : List Prop) (r : DV) (h : (kn_noteU FsD0).2 args = some (cs, r)) (hc : allP cs True) : FnV Try.prog 36 args r ∧ closedL 0 args = true := by
 unfold kn_noteU at h
 simp only at h
 split at h
 ·cases h; exact ⟨v_noteU _ _ _ ⟨_, _, _, _, _⟩ hc.1 hc.2.1, clo1 (isOwnU.closed hc.1) rfl⟩
 ·cases h; exact ⟨FnP.ups (v_noteU _ _ _ ⟨_, _, _, _, []⟩ hc.1 hc.2.1) (UpL.keep (UpL.keep (UpL.keep (UpL.agg (UpL.keep (UpL.keep (UpL.keep (UpL.keep (UpL.nil UpL.done))))) UpL.done)))), clo1 (isOwnU.closed hc.1) rfl⟩
 ·cases h
def kn_rightU (F : FsD) : FuncId × (List DV → RV) := (42, fun args => match args with
 | [.agg cs] => some ([F.isOwn cs], boolD ((F.rightU cs)))
 | _ => none)
theorem ok_rightU (args : List DV) (cs : List Prop) (r : DV) (h : (kn_rightU FsD0).2 args = some (cs, r)) (hc : allP cs True) : FnV Try.prog 42 args r ∧ closedL 0 args = true := by
 unfold kn_rightU at h
 simp only at h
 split at h
 ·cases h; exact ⟨v_rightU _ hc.1, clo1 (isOwnU.closed hc.1) rfl⟩
 ·cases h
end Go.Proofs.Ytadnpgkddgbhkaa
namespace Go.Proofs.Ytadnpgkddgbhkaa
open Go.RowKit
set_option linter.all false
theorem isP.put {xs : List (List PD)} (h : isP xs) (key value : ByteArray) : isP (putX xs key value).1 := by
 have hr := findX_range xs key
 unfold putX
 split
 ·exact h.set _ _
 ·split
  ·exact isP.nil
  ·exact h.ins (by omega) _ _
theorem isP.delX {xs : List (List PD)} (h : isP xs) (key : ByteArray) : isP (delX xs key).1 := by
 unfold Proofs.Ytadnpgkddgbhkaa.delX
 split
 ·exact h.del _
 ·exact h
theorem rangeL_filter (s : Span) : ∀ (ps acc : List Pair), acc.length ≤ 8 → rangeL s ps acc = ((acc ++ ps.filter fun p => hasS s p.key).take 8, decide (8 < (acc ++ ps.filter fun p => hasS s p.key).length))
 | [], acc, h => by
     simp only [rangeL, List.filter_nil, List.append_nil, Prod.mk.injEq]
     exact ⟨(List.take_of_length_le h).symm, by simp; omega⟩
 | p :: ps, acc, h => by
     unfold rangeL
     by_cases hp : hasS s p.key = true
     ·rw [if_pos hp, List.filter_cons_of_pos (by simpa using hp)]
      split
      ·rename_i h8
       rw [List.take_append_of_le_length (by omega), List.take_of_length_le (by omega)]
       simp [h8]
      ·rw [rangeL_filter s ps (acc ++ [p]) (by simp; omega)]
       simp
     ·rw [if_neg hp, List.filter_cons_of_neg (by simpa using hp), rangeL_filter s ps acc h]
theorem range_isP (xs : List (List PD)) (s : Span) : isP (rangeX xs s).1 := by
 refine ⟨_, rfl, ?_⟩
 rw [rangeL_filter s _ [] (by simp), List.length_take]
 omega
def Srt (ps : List Pair) : Prop := ps.Pairwise fun p q => ltb p.key q.key = true
def look (ps : List Pair) (key : ByteArray) : Option Pair := ps.find? fun p => decide (p.key = key)
theorem findL_split (key : ByteArray) : ∀ (ps : List Pair) (i : Int), ∃ a b, ps = a ++ b ∧ (findL key ps i).1 = i + (a.length : Int) ∧ (∀ p ∈ a, ltb p.key key = true) ∧
  (b = [] ∧ (findL key ps i).2 = false ∨ ∃ q r, b = q :: r ∧ ltb q.key key = false ∧ (findL key ps i).2 = decide (q.key = key))
 | [], i => ⟨[], [], rfl, by simp [findL], by simp, .inl ⟨rfl, rfl⟩⟩
 | p :: ps, i => by
     unfold findL
     split
     ·rename_i h
      obtain ⟨a, b, h1, h2, h3, h4⟩ := findL_split key ps (i + 1)
      refine ⟨p :: a, b, by rw [h1]; rfl, by rw [h2]; simp only [List.length_cons]; omega, ?_, h4⟩
      intro x hx
      simp only [List.mem_cons] at hx
      rcases hx with rfl | hx
      ·exact h
      ·exact h3 x hx
     ·rename_i h
      exact ⟨[], p :: ps, rfl, by simp, by simp, .inr ⟨p, ps, rfl, by simpa using h, rfl⟩⟩
theorem ltb_ne {a b : ByteArray} (h : ltb a b = true) : a ≠ b := by
 rintro rfl
 rw [ltb_irrefl] at h
 cases h
theorem ltb_not {a b : ByteArray} (h : ltb a b = false) (hn : a ≠ b) : ltb b a = true := by
 have := ltb_total a b
 rw [h] at this
 simp only [Bool.not_false, Bool.true_eq, Bool.or_eq_true, decide_eq_true_eq] at this
 rcases this with h | h
 ·exact h
 ·exact absurd h.symm hn
theorem look_none {ps : List Pair} {key : ByteArray} (h : ∀ p ∈ ps, p.key ≠ key) : look ps key = none := by
 simp only [look, List.find?_eq_none, decide_eq_true_eq]
 exact h
theorem look_append (a b : List Pair) (key : ByteArray) : look (a ++ b) key = (look a key).or (look b key) := by
 simp [look, List.find?_append]
theorem look_cons_ne {p : Pair} {ps : List Pair} {key : ByteArray} (h : p.key ≠ key) : look (p :: ps) key = look ps key := by
 simp [look, h]
theorem look_cons_eq {p : Pair} {ps : List Pair} : look (p :: ps) p.key = some p := by
 simp [look]
def gotL (ps : List Pair) (key : ByteArray) : Pair × Bool := match look ps key with
 | some p => (p, true)
 | none => (⟨none8, none8, 0⟩, false)
theorem rowP_at (a : List Pair) (q : Pair) (r : List Pair) : (pairsX (a ++ q :: r)).getD a.length [] = q.row := by
 simp [pairsX, List.getD_eq_getElem?_getD]
theorem Srt.split {a b : List Pair} {q : Pair} (h : Srt (a ++ q :: b)) : (∀ p ∈ b, ltb q.key p.key = true) := by
 unfold Srt at h
 rw [List.pairwise_append] at h
 exact fun p hp => (List.pairwise_cons.1 h.2.1).1 p hp
theorem get_look {ps : List Pair} (hs : Srt ps) (key : ByteArray) : getP (pairsX ps) key = gotL ps key := by
 obtain ⟨a, b, h1, h2, h3, h4⟩ := findL_split key ps 0
 have ha : look a key = none := look_none fun p hp => ltb_ne (h3 p hp)
 unfold getP getX thereX gotL findX
 rw [pairsOf_X]
 subst h1
 rcases h4 with ⟨rfl, h5⟩ | ⟨q, r, rfl, h5, h6⟩
 ·rw [h5, if_neg (by simp), List.append_nil, ha]
 ·rw [h6]
  by_cases e : q.key = key
  ·rw [if_pos (by simpa using e), h2, look_append, ha]
   subst e
   rw [look_cons_eq]
   simp only [Option.none_or, decide_true]
   rw [show ((0 : Int) + (a.length : Int)).toNat = a.length by omega, rowP_at, rowP_row]
  ·have hr : look r key = none := look_none fun p hp => (ltb_ne (ltb_trans (ltb_not h5 e) (hs.split p hp))).symm
   rw [if_neg (by simpa using e), look_append, ha, look_cons_ne e, hr]
   simp [e]
theorem del_look {ps : List Pair} (hs : Srt ps) (key : ByteArray) : ∃ qs, (delX (pairsX ps) key).1 = pairsX qs ∧ Srt qs ∧ (∀ j, j ≠ key → look qs j = look ps j) ∧ look qs key = none := by
 obtain ⟨a, b, h1, h2, h3, h4⟩ := findL_split key ps 0
 have ha : look a key = none := look_none fun p hp => ltb_ne (h3 p hp)
 unfold delX findX
 rw [pairsOf_X]
 subst h1
 rcases h4 with ⟨rfl, h5⟩ | ⟨q, r, rfl, h5, h6⟩
 ·rw [if_neg (by rw [h5]; simp)]
  exact ⟨_, rfl, hs, fun _ _ => rfl, by rw [List.append_nil]; exact ha⟩
 ·by_cases e : q.key = key
  ·rw [if_pos (by rw [h6]; simpa using e), h2, show ((0 : Int) + (a.length : Int)).toNat = a.length by omega]
   refine ⟨a ++ r, ?_, ?_, ?_, ?_⟩
   ·simp only [delP, pairsX]
    rw [← List.map_take, ← List.map_drop, List.take_append_of_le_length (Nat.le_refl _), List.take_length, List.drop_append]
    simp
   ·exact hs.sublist (List.Sublist.append (List.Sublist.refl a) (List.sublist_cons_self q r))
   ·intro j hj
    rw [look_append, look_append, look_cons_ne (fun h => hj (by rw [← h, e]))]
   ·rw [look_append, ha]
    exact look_none fun p hp => (ltb_ne (by rw [← e]; exact hs.split p hp)).symm
  ·rw [if_neg (by rw [h6]; simpa using e)]
   have hr : look r key = none := look_none fun p hp => (ltb_ne (ltb_trans (ltb_not h5 e) (hs.split p hp))).symm
   exact ⟨_, rfl, hs, fun _ _ => rfl, by rw [look_append, ha, look_cons_ne e, hr]; rfl⟩
theorem Srt.keys {a b : List Pair} {p q : Pair} (h : Srt (a ++ q :: b)) (e : p.key = q.key) : Srt (a ++ p :: b) := by
 unfold Srt at *
 rw [List.pairwise_append, List.pairwise_cons] at *
 refine ⟨h.1, ⟨fun x hx => by rw [e]; exact h.2.1.1 x hx, h.2.1.2⟩, fun x hx y hy => ?_⟩
 simp only [List.mem_cons] at hy
 rcases hy with rfl | hy
 ·rw [e]; exact h.2.2 x hx q (by simp)
 ·exact h.2.2 x hx y (by simp [hy])
theorem put_look {ps : List Pair} (hs : Srt ps) (key value : ByteArray) (hw : (putX (pairsX ps) key value).2 = 0) : ∃ qs, (putX (pairsX ps) key value).1 = pairsX qs ∧ Srt qs ∧ (∀ j, j ≠ key → look qs j = look ps j) ∧
  look qs key = some ⟨key, value, match look ps key with | some p => IntKind.wrap .i64 (p.version + 1) | none => 1⟩ := by
 obtain ⟨a, b, h1, h2, h3, h4⟩ := findL_split key ps 0
 have ha : look a key = none := look_none fun p hp => ltb_ne (h3 p hp)
 revert hw
 unfold putX findX
 rw [pairsOf_X]
 subst h1
 rcases h4 with ⟨rfl, h5⟩ | ⟨q, r, rfl, h5, h6⟩
 ·rw [if_neg (by rw [h5]; simp)]
  split
  ·intro h; cases h
  ·intro _
   rw [h2, show ((0 : Int) + (a.length : Int)).toNat = a.length by omega, List.append_nil]
   refine ⟨a ++ [⟨key, value, 1⟩], ?_, ?_, ?_, ?_⟩
   ·simp only [newP, pairsX]
    rw [← List.map_take, ← List.map_drop]
    simp
   ·unfold Srt
    rw [List.append_nil] at hs
    rw [List.pairwise_append]
    refine ⟨hs, by simp, fun x hx y hy => ?_⟩
    simp only [List.mem_singleton] at hy
    subst hy
    exact h3 x hx
   ·intro j hj
    rw [look_append, look_cons_ne (fun h => hj h.symm)]
    simp [look]
   ·rw [look_append, ha]
    simp [look]
 ·by_cases e : q.key = key
  ·rw [if_pos (by rw [h6]; simpa using e), h2, show ((0 : Int) + (a.length : Int)).toNat = a.length by omega]
   intro _
   subst e
   refine ⟨a ++ ⟨q.key, value, IntKind.wrap .i64 (q.version + 1)⟩ :: r, ?_, hs.keys rfl, ?_, ?_⟩
   ·simp only [setP, rowP_at, rowP_row]
    simp [pairsX]
   ·intro j hj
    rw [look_append, look_append, look_cons_ne (p := q) (fun h => hj h.symm), look_cons_ne (p := ⟨q.key, value, _⟩) (fun h => hj h.symm)]
   ·rw [look_append, look_append, ha, show look (⟨q.key, value, IntKind.wrap .i64 (q.version + 1)⟩ :: r) q.key = some ⟨q.key, value, IntKind.wrap .i64 (q.version + 1)⟩ from look_cons_eq (p := ⟨q.key, value, IntKind.wrap .i64 (q.version + 1)⟩), look_cons_eq (p := q)]
    rfl
  ·rw [if_neg (by rw [h6]; simpa using e)]
   have hr : look r key = none := look_none fun p hp => (ltb_ne (ltb_trans (ltb_not h5 e) (hs.split p hp))).symm
   split
   ·intro h; cases h
   ·intro _
    rw [h2, show ((0 : Int) + (a.length : Int)).toNat = a.length by omega]
    refine ⟨a ++ ⟨key, value, 1⟩ :: q :: r, ?_, ?_, ?_, ?_⟩
    ·simp only [newP, pairsX]
     rw [← List.map_take, ← List.map_drop]
     simp
    ·unfold Srt at *
     rw [List.pairwise_append, List.pairwise_cons] at *
     refine ⟨hs.1, ⟨fun x hx => ?_, by rw [List.pairwise_cons]; exact hs.2.1⟩, fun x hx y hy => ?_⟩
     ·simp only [List.mem_cons] at hx
      rcases hx with rfl | hx
      ·exact ltb_not h5 e
      ·exact ltb_trans (ltb_not h5 e) (hs.2.1.1 x hx)
     ·simp only [List.mem_cons] at hy
      rcases hy with rfl | hy
      ·exact h3 x hx
      ·exact hs.2.2 x hx y (by simpa using hy)
    ·intro j hj
     rw [look_append, look_append, look_cons_ne (fun h => hj h.symm)]
    ·rw [look_append, look_append, ha, look_cons_ne e, hr, show look (⟨key, value, 1⟩ :: q :: r) key = some ⟨key, value, 1⟩ from look_cons_eq (p := ⟨key, value, 1⟩)]
     rfl
end Go.Proofs.Ytadnpgkddgbhkaa
namespace Go.Proofs.Ytadnpgkddgbhkaa
open Go.RowKit
set_option linter.all false
structure Cmd where
 kind : Int
 client : Int
 seq : Int
 key : ByteArray
 fin : ByteArray
 old : ByteArray
 val : ByteArray
 deriving DecidableEq
def Cmd.D (x : Cmd) : DV := .agg [intD x.kind, intD x.client, intD x.seq, strD x.key, strD x.fin, strD x.old, strD x.val]
def within (n m : Int) : Bool := decide (1 ≤ n) && decide (n ≤ m)
def emptyS (s : Span) : Bool := !under s.lo s.hi
theorem bytes1 : ({ data := { toList := [0] } } : ByteArray).size = 1 := rfl
def bare (c : Cmd) : Cmd := { kind := c.kind, client := c.client, seq := c.seq, key := c.key, fin := if c.kind = 5 then c.fin else none8, old := if c.kind = 4 then c.old else none8, val := if c.kind = 2 ∨ c.kind = 4 then c.val else none8 }
def emptyR (s : Span) : Bool := !decide (s.hi = none8) && (ltb s.hi s.lo || decide (s.hi = s.lo))
def meets (a b : Span) : Bool := !emptyS a && !emptyS b && under a.lo b.hi && under b.lo a.hi
def meetsR (a b : Span) : Bool := !emptyR a && !emptyR b && (decide (a.hi = none8) || ltb b.lo a.hi) && (decide (b.hi = none8) || ltb a.lo b.hi)
def spanOf (k : ByteArray) : Span := ⟨k, k ++ { data := #[0] }⟩
def Cmd.zero : Cmd := ⟨0, 0, 0, none8, none8, none8, none8⟩
def rightC (c : Cmd) : Bool := decide (c = .zero) || (within c.kind 5 && within c.client 8 && within c.seq 1099511627776 && decide (c = bare c) && decide (c.key.size ≤ 16) && decide (c.fin.size ≤ 16) && decide (c.old.size ≤ 64) && decide (c.val.size ≤ 64) && (!decide (c.key = none8) || decide (c.kind = 5)))
def rightCR (c : Cmd) : Bool := decide (c = .zero) || (decide (1 ≤ c.kind) && decide (c.kind ≤ 5) && decide (1 ≤ c.client) && decide (c.client ≤ 8) && decide (1 ≤ c.seq) && decide (c.seq ≤ 1099511627776) && decide (c.key.size ≤ 16) && decide (c.fin.size ≤ 16) && decide (c.old.size ≤ 64) && decide (c.val.size ≤ 64) && decide (c = bare c) && (decide (c.kind = 5) || !decide (c.key = none8)))
def keysC (c : Cmd) : Span × Bool := if c.kind = 1 ∨ c.kind = 2 ∨ c.kind = 3 ∨ c.kind = 4 then (spanOf c.key, true) else if c.kind = 5 then (⟨c.key, c.fin⟩, true) else (⟨none8, none8⟩, false)
def writesC (c : Cmd) : Bool := decide (c.kind = 2) || decide (c.kind = 3) || decide (c.kind = 4)
def clashC (a b : Cmd) : Bool := (keysC a).2 && (keysC b).2 && (decide (a.client = b.client) || (writesC a || writesC b) && meets (keysC a).1 (keysC b).1)
def clashR (a b : Cmd) : Bool := (keysC a).2 && (keysC b).2 && (decide (a.client = b.client) || (writesC a || writesC b) && meetsR (keysC a).1 (keysC b).1)
structure Fs5 where
 within : Int → Int → Bool
 empty : Span → Bool
 emptyR : Span → Bool
 bare : Cmd → Cmd
 meets : Span → Span → Bool
 meetsR : Span → Span → Bool
 spanOf : ByteArray → Span
 cright : Cmd → Bool
 crightR : Cmd → Bool
 ckeys : Cmd → Span × Bool
 cwrites : Cmd → Bool
 ckeysR : Cmd → Span × Bool
 cwritesR : Cmd → Bool
 cclash : Cmd → Cmd → Bool
 cclashR : Cmd → Cmd → Bool
 sz : ByteArray → Prop
def Fs50 : Fs5 where
 within := within
 empty := emptyS
 emptyR := emptyR
 bare := bare
 meets := meets
 meetsR := meetsR
 spanOf := spanOf
 cright := rightC
 crightR := rightCR
 ckeys := keysC
 cwrites := writesC
 ckeysR := keysC
 cwritesR := writesC
 cclash := clashC
 cclashR := clashR
 sz := fun b => b.size ≤ 4194304
set_option maxRecDepth 100000 in
theorem v_within (n : Int) (m : Int) : FnV Try.prog 49 [intD n, intD m] (boolD ((within n m))) := by
 refine FnD_cbv (T := fun _ => tabY [] []) (H := fun _ => []) (tabY_ok _ _) noK_ok follows_mixed Try.func49 rfl Try.ntmps49 (by simp) fun A X W hA hX hW => ?_
 cbv
 repeat' first
  | (refine part (fun h => ?_) (fun h => ?_) <;> try cbv)
  | (refine And.intro ?_ ?_)
 all_goals subst hA hX hW
 all_goals try (show Region.lexB _ _ = true; kernel_rfl)
 all_goals try (show turnsB _ = true; kernel_rfl)
 all_goals simp only [A0, Fs50, decide_eq_true_eq, decide_eq_false_iff_not, Bool.not_eq_true', Bool.not_eq_false'] at *
 all_goals first
  | (refine ret_v ?_ rfl
     first
      | rfl
      | (simp_all [within, boolD, intD, strD]; done)
      | (simp_all [within, boolD, intD, strD]; rfl)
      | (simp only [within, boolD, intD, strD] at *; congr 3; grind)
      | (simp only [within, boolD, intD, strD] at *; grind))
  | (intros; simp_all [bytes1, maxLen]; done)
  | (intros; simp only [bytes1, maxLen] at *; omega)
  | grind
def kn_within (F : Fs5) : FuncId × (List DV → RV) := (49, fun args => match args with
 | [.d (.sc (.int .i64 n)), .d (.sc (.int .i64 m))] => some ([], boolD ((F.within n m)))
 | _ => none)
theorem ok_within (args : List DV) (cs : List Prop) (r : DV) (h : (kn_within Fs50).2 args = some (cs, r)) (hc : allP cs True) : FnV Try.prog 49 args r ∧ closedL 0 args = true := by
 unfold kn_within at h
 simp only at h
 split at h
 ·cases h; exact ⟨v_within _ _, rfl⟩
 ·cases h
set_option maxRecDepth 100000 in
theorem v_bare (c : Cmd) : FnV Try.prog 50 [Cmd.D c] (Cmd.D ((bare c))) := by
 obtain ⟨c_kind, c_client, c_seq, c_key, c_fin, c_old, c_val⟩ := c
 refine FnD_cbv (T := fun _ => tabY [] []) (H := fun _ => []) (tabY_ok _ _) noK_ok follows_mixed Try.func50 rfl Try.ntmps50 (by simp) fun A X W hA hX hW => ?_
 cbv
 repeat' first
  | (refine part (fun h => ?_) (fun h => ?_) <;> try cbv)
  | (refine And.intro ?_ ?_)
 all_goals subst hA hX hW
 all_goals try (show Region.lexB _ _ = true; kernel_rfl)
 all_goals try (show turnsB _ = true; kernel_rfl)
 all_goals simp only [A0, Fs50, decide_eq_true_eq, decide_eq_false_iff_not, Bool.not_eq_true', Bool.not_eq_false'] at *
 all_goals first
  | (refine ret_v ?_ rfl
     first
      | rfl
      | (simp_all [bare, Cmd.D, boolD, intD, strD]; done)
      | (simp_all [bare, Cmd.D, boolD, intD, strD]; rfl)
      | (simp only [bare, Cmd.D, boolD, intD, strD] at *; congr 3; grind)
      | (simp only [bare, Cmd.D, boolD, intD, strD] at *; grind))
  | (intros; simp_all [bytes1, maxLen]; done)
  | (intros; simp only [bytes1, maxLen] at *; omega)
  | grind
def kn_bare (F : Fs5) : FuncId × (List DV → RV) := (50, fun args => match args with
 | [.agg [.d (.sc (.int .i64 c_kind)), .d (.sc (.int .i64 c_client)), .d (.sc (.int .i64 c_seq)), .d (.sc (.string c_key)), .d (.sc (.string c_fin)), .d (.sc (.string c_old)), .d (.sc (.string c_val))]] => some ([], Cmd.D ((F.bare ⟨c_kind, c_client, c_seq, c_key, c_fin, c_old, c_val⟩)))
 | _ => none)
theorem ok_bare (args : List DV) (cs : List Prop) (r : DV) (h : (kn_bare Fs50).2 args = some (cs, r)) (hc : allP cs True) : FnV Try.prog 50 args r ∧ closedL 0 args = true := by
 unfold kn_bare at h
 simp only at h
 split at h
 ·cases h; exact ⟨v_bare ⟨_, _, _, _, _, _, _⟩, rfl⟩
 ·cases h
set_option maxRecDepth 100000 in
theorem v_cright (c : Cmd) : FnV Try.prog 31 [Cmd.D c] (boolD ((rightC c))) := by
 obtain ⟨c_kind, c_client, c_seq, c_key, c_fin, c_old, c_val⟩ := c
 obtain ⟨F, hF⟩ : ∃ F, F = Fs50 := ⟨_, rfl⟩
 have hH : SoundK Try.prog [kn_within F, kn_bare F] := by subst hF; exact orK_ok ok_within (orK_ok ok_bare noK_ok)
 refine FnD_cbv (T := fun _ => tabY [] []) (H := fun _ => [kn_within F, kn_bare F]) (tabY_ok _ _) hH follows_mixed Try.func31 rfl Try.ntmps31 (by simp) fun A X W hA hX hW => ?_
 clear hH
 cbv
 repeat' first
  | (refine part (fun h => ?_) (fun h => ?_) <;> try cbv)
  | (refine And.intro ?_ ?_)
 all_goals subst hA hX hW hF
 all_goals try (show Region.lexB _ _ = true; kernel_rfl)
 all_goals try (show turnsB _ = true; kernel_rfl)
 all_goals simp only [A0, Fs50, decide_eq_true_eq, decide_eq_false_iff_not, Bool.not_eq_true', Bool.not_eq_false'] at *
 all_goals first
  | (refine ret_v ?_ rfl
     simp only [rightC, Cmd.zero, bare, within, Cmd.mk.injEq, boolD, Bool.cond_true_left, Bool.cond_false_left, Bool.cond_true_right, Bool.cond_false_right, Bool.or_eq_false_iff, Bool.and_eq_false_imp, Bool.or_eq_true, Bool.and_eq_true, decide_eq_true_eq, decide_eq_false_iff_not, decide_true, Bool.true_and, Bool.and_true] at *
     congr 3
     rw [Bool.eq_iff_iff]
     simp only [Bool.or_eq_true, Bool.and_eq_true, decide_eq_true_eq, Bool.not_eq_true', decide_eq_false_iff_not, Bool.false_eq_true, Bool.true_eq_false] at *
     grind)
  | (intro hq; exact hq)
  | (intro hq; simpa using hq)
  | grind
def kn_cright (F : Fs5) : FuncId × (List DV → RV) := (31, fun args => match args with
 | [.agg [.d (.sc (.int .i64 c_kind)), .d (.sc (.int .i64 c_client)), .d (.sc (.int .i64 c_seq)), .d (.sc (.string c_key)), .d (.sc (.string c_fin)), .d (.sc (.string c_old)), .d (.sc (.string c_val))]] => some ([], boolD ((F.cright ⟨c_kind, c_client, c_seq, c_key, c_fin, c_old, c_val⟩)))
 | _ => none)
theorem ok_cright (args : List DV) (cs : List Prop) (r : DV) (h : (kn_cright Fs50).2 args = some (cs, r)) (hc : allP cs True) : FnV Try.prog 31 args r ∧ closedL 0 args = true := by
 unfold kn_cright at h
 simp only at h
 split at h
 ·cases h; exact ⟨v_cright ⟨_, _, _, _, _, _, _⟩, rfl⟩
 ·cases h
set_option maxRecDepth 100000 in
theorem v_crightR (c : Cmd) : FnV Try.prog 37 [Cmd.D c] (boolD ((rightCR c))) := by
 obtain ⟨c_kind, c_client, c_seq, c_key, c_fin, c_old, c_val⟩ := c
 refine FnD_cbv (T := fun _ => tabY [] []) (H := fun _ => []) (tabY_ok _ _) noK_ok follows_mixed Try.func37 rfl Try.ntmps37 (by simp) fun A X W hA hX hW => ?_
 cbv
 repeat' first
  | (refine part (fun h => ?_) (fun h => ?_) <;> try cbv)
  | (refine And.intro ?_ ?_)
 all_goals subst hA hX hW
 all_goals try (show Region.lexB _ _ = true; kernel_rfl)
 all_goals try (show turnsB _ = true; kernel_rfl)
 all_goals simp only [A0, Fs50, decide_eq_true_eq, decide_eq_false_iff_not, Bool.not_eq_true', Bool.not_eq_false'] at *
 all_goals first
  | (refine ret_v ?_ rfl
     simp only [rightCR, Cmd.zero, bare, within, Cmd.mk.injEq, boolD, Bool.cond_true_left, Bool.cond_false_left, Bool.cond_true_right, Bool.cond_false_right, Bool.or_eq_false_iff, Bool.and_eq_false_imp, Bool.or_eq_true, Bool.and_eq_true, decide_eq_true_eq, decide_eq_false_iff_not, decide_true, Bool.true_and, Bool.and_true] at *
     congr 3
     rw [Bool.eq_iff_iff]
     simp only [Bool.or_eq_true, Bool.and_eq_true, decide_eq_true_eq, Bool.not_eq_true', decide_eq_false_iff_not, Bool.false_eq_true, Bool.true_eq_false] at *
     grind)
  | (intro hq; exact hq)
  | (intro hq; simpa using hq)
  | grind
def kn_crightR (F : Fs5) : FuncId × (List DV → RV) := (37, fun args => match args with
 | [.agg [.d (.sc (.int .i64 c_kind)), .d (.sc (.int .i64 c_client)), .d (.sc (.int .i64 c_seq)), .d (.sc (.string c_key)), .d (.sc (.string c_fin)), .d (.sc (.string c_old)), .d (.sc (.string c_val))]] => some ([], boolD ((F.crightR ⟨c_kind, c_client, c_seq, c_key, c_fin, c_old, c_val⟩)))
 | _ => none)
theorem ok_crightR (args : List DV) (cs : List Prop) (r : DV) (h : (kn_crightR Fs50).2 args = some (cs, r)) (hc : allP cs True) : FnV Try.prog 37 args r ∧ closedL 0 args = true := by
 unfold kn_crightR at h
 simp only at h
 split at h
 ·cases h; exact ⟨v_crightR ⟨_, _, _, _, _, _, _⟩, rfl⟩
 ·cases h
end Go.Proofs.Ytadnpgkddgbhkaa
namespace Go.Proofs.Ytadnpgkddgbhkaa
open Go.RowKit
set_option linter.all false
set_option maxHeartbeats 4000000
theorem sameX_rep (a b : Reply) (ha : isP a.pairs) (hb : isP b.pairs) : (bif bif bif bif decide (a.why = b.why) then decide (a.found = b.found) else false then decide (a.value = b.value) else false then decide (a.version = b.version) else false then sameX a.pairs b.pairs else false) = repliesX a b := by
 obtain ⟨a1, a2, a3, a4, a5⟩ := a
 obtain ⟨b1, b2, b3, b4, b5⟩ := b
 obtain ⟨ps, h1, _⟩ := ha
 obtain ⟨qs, h2, _⟩ := hb
 simp only at h1 h2
 subst h1 h2
 rw [Bool.eq_iff_iff, repliesX_iff]
 simp only [sameX, pairsOf_X, Bool.cond_eq_true_distrib, cond_eq_ite, Bool.if_false_right, Bool.and_eq_true, decide_eq_true_eq, Reply.mk.injEq, pairsX_inj, and_assoc]
structure FsE1 where
 equal : List (List PD) → List (List PD) → Bool
 sameR : Reply → Reply → Bool
 isP : List (List PD) → Prop
noncomputable def FsE10 : FsE1 where
 equal := sameX
 sameR := repliesX
 isP := isP
set_option maxRecDepth 100000 in
theorem v_equal (xs : List (List PD)) (ys : List (List PD)) (hp0 : FsE10.isP xs) (hp1 : FsE10.isP ys) : FnV Try.prog 40 [.d (.slc 3 xs), .d (.slc 3 ys)] (boolD ((sameX xs ys))) := by
 obtain ⟨ps, hxs, hb⟩ := hp0
 obtain ⟨qs, hys, hd⟩ := hp1
 have hlx : xs.length = ps.length := by rw [hxs]; exact pairsX_length ps
 have hly : ys.length = qs.length := by rw [hys]; exact pairsX_length qs
 have heq : xs = ys ↔ ps = qs := by rw [hxs, hys]; exact pairsX_inj
 have hsame : sameX xs ys = decide (ps = qs) := by unfold sameX; rw [hxs, hys, pairsOf_X, pairsOf_X]
 rw [hsame]
 obtain ⟨n, hn⟩ : ∃ n : Int, n = ps.length := ⟨_, rfl⟩
 obtain ⟨sm, hsm⟩ : ∃ sm, sm = decide (ps = qs) := ⟨_, rfl⟩
 rw [← hsm]
 refine FnD_cbv (T := fun _ => tabY [18, 22] []) (H := fun _ => []) (tabY_ok _ _) noK_ok follows_mixed Try.func40 rfl Try.ntmps40 (by simp) fun A X W hA hX hW => ?_
 cbv
 refine part (fun h => ?_) (fun h => ?_)
 ·cbv
  subst hA hX hW
  simp only [A0] at h
  refine ret_v ?_ rfl
  have hne : ¬ ps = qs := by
   intro e
   have e2 := heq.2 e
   subst e2
   simp at h
  subst hsm
  simp [boolD, hne]
 ·cbv
  refine loopL (T := fun _ => tabY [18, 22] []) (H := fun _ => []) (tabY_ok _ _) noK_ok follows_mixed hA hX (fun i : Int => 0 ≤ i ∧ i ≤ ps.length ∧ ps.take i.toNat = qs.take i.toNat)
   (fun i => [(0, .d (.slc 3 xs)), (1, .d (.slc 3 ys)), (12, .d (.sc (.int .i64 n))), (13, .d (.sc (.int .i64 i)))]) (fun _ => [])
   (fun i => (ps.length : Int).toNat - i.toNat) 0 ?_ ?_ ?_
  ·exact ⟨by omega, by omega, by simp⟩
  ·subst hA; exact told_less (by simp [toldP, getS, A0, hn, hlx])
  rintro R i hR ⟨i0, i1, i2⟩
  cbv
  have hlen : ps.length = qs.length := by
   subst hA
   simp only [A0] at h
   simp only [Bool.not_eq_false', decide_eq_true_eq] at h
   omega
  repeat' first
   | (refine part (fun h => ?_) (fun h => ?_) <;> try cbv)
   | (refine And.intro ?_ ?_)
  all_goals subst hA hX hW hR
  all_goals simp only [A0, nc, decide_eq_true_eq, decide_eq_false_iff_not, Bool.not_eq_true', Bool.not_eq_false'] at *
  all_goals replace hn : n = (ps.length : Int) := hn
  all_goals replace i1 : i ≤ (ps.length : Int) := i1
  all_goals have ei : IntKind.wrap .i64 (i + 1) = i + 1 := wrap_i64 (by unfold r64; omega)
  all_goals try
   have hi : i < ps.length := by omega
   have hj : i.toNat < ps.length := by omega
   have hj2 : i.toNat < qs.length := by omega
   have hrx := prow hxs i0 hi
   have hry := prow hys i0 (by omega)
   have ht1 := List.take_succ_eq_append_getElem hj
   have ht2 := List.take_succ_eq_append_getElem hj2
   have hg1 : ps[i.toNat]? = some (ps[i.toNat]'(by omega)) := List.getElem?_eq_getElem hj
   have hg2 : qs[i.toNat]? = some (qs[i.toNat]'(by omega)) := List.getElem?_eq_getElem hj2
   generalize ps[i.toNat]'(by omega) = p at hrx ht1 hg1
   generalize qs[i.toNat]'(by omega) = q at hry ht2 hg2
   simp only [hrx, hry, Pair.row, List.map_cons, List.map_nil, Nat.zero_add, List.getElem?_cons_zero, List.getElem?_cons_succ] at *
  all_goals first
   | rfl
   | (show Region.lexB _ _ = true; kernel_rfl)
   | (show turnsB _ = true; kernel_rfl)
   | omega
   | (refine ⟨by omega, by omega⟩)
   | (simp; done)
   | (have h4 := ‹(decide (p.key = q.key) && (decide (p.value = q.value) && (decide (p.version = q.version) && true))) = false›
      refine ret_v ?_ rfl
      have hne : ¬ ps = qs := by
       intro e
       subst e
       rw [hg1] at hg2
       cases hg2
       simp at h4
      subst hsm
      simp [boolD, hne]
      done)
   | (have h4 := ‹(decide (p.key = q.key) && (decide (p.value = q.value) && (decide (p.version = q.version) && true))) = true›
      have he : p = q := by
       simp only [Bool.and_true, Bool.and_eq_true, decide_eq_true_eq] at h4
       obtain ⟨a, b, c⟩ := p
       obtain ⟨d, e, f⟩ := q
       simp only at h4
       obtain ⟨rfl, rfl, rfl⟩ := h4
       rfl
      refine ⟨i + 1, ⟨by omega, by omega, ?_⟩, ?_, told_less ?_⟩
      ·rw [show (i + 1).toNat = i.toNat + 1 by omega, ht1, ht2, i2, he]
      ·simp only [Int.toNat_natCast]
       omega
      ·simp [toldP, getS, ei])
   | (replace h : ¬ i < n := h
      refine ret_v ?_ rfl
      have hil : i.toNat = ps.length := by omega
      rw [hil, List.take_length] at i2
      have e : ps = qs := by rw [i2, hlen, List.take_length]
      subst hsm
      simp [boolD, e])
def kn_equal (F : FsE1) : FuncId × (List DV → RV) := (40, fun args => match args with
 | [.d (.slc 3 xs), .d (.slc 3 ys)] => some ([F.isP xs, F.isP ys], boolD ((F.equal xs ys)))
 | [.d (.sc (.slice none 0 0)), .d (.slc 3 ys)] => some ([F.isP [], F.isP ys], boolD ((F.equal [] ys)))
 | [.d (.slc 3 xs), .d (.sc (.slice none 0 0))] => some ([F.isP xs, F.isP []], boolD ((F.equal xs [])))
 | [.d (.sc (.slice none 0 0)), .d (.sc (.slice none 0 0))] => some ([F.isP [], F.isP []], boolD ((F.equal [] [])))
 | _ => none)
theorem ok_equal (args : List DV) (cs : List Prop) (r : DV) (h : (kn_equal FsE10).2 args = some (cs, r)) (hc : allP cs True) : FnV Try.prog 40 args r ∧ closedL 0 args = true := by
 unfold kn_equal at h
 simp only at h
 split at h
 ·cases h; exact ⟨v_equal _ _ hc.1 hc.2.1, rfl⟩
 ·cases h; exact ⟨FnP.nils (v_equal [] _ hc.1 hc.2.1) ⟨.inr ⟨rfl, _, rfl⟩, ⟨.inl rfl, trivial⟩⟩, rfl⟩
 ·cases h; exact ⟨FnP.nils (v_equal _ [] hc.1 hc.2.1) ⟨.inl rfl, ⟨.inr ⟨rfl, _, rfl⟩, trivial⟩⟩, rfl⟩
 ·cases h; exact ⟨FnP.nils (v_equal [] [] hc.1 hc.2.1) ⟨.inr ⟨rfl, _, rfl⟩, ⟨.inr ⟨rfl, _, rfl⟩, trivial⟩⟩, rfl⟩
 ·cases h
end Go.Proofs.Ytadnpgkddgbhkaa
namespace Go.Proofs.Ytadnpgkddgbhkaa
open Go.RowKit
set_option linter.all false
set_option maxHeartbeats 4000000
noncomputable def sameS (xs : List (List PD)) (cs : List DV) (ys : List (List PD)) (ds : List DV) : Bool := @decide (xs = ys ∧ cs = ds) (Classical.propDecidable _)
theorem tk48s (c : DV) {cs : List DV} (h : cs.length = 48) : A0.tk (c :: cs) 1 1 48 = cs := by
 show ((c :: cs).drop 1).take (1 * 48) = cs
 rw [List.drop_succ_cons, List.drop_zero, List.take_of_length_le (by omega)]
theorem own_drop' {ds : List DV} {os : List Owner} (hds : ds = ownsD os) (i : Nat) (h : i < os.length) : ds.drop (i * 6) = (os[i]'h).cells ++ ownsD (os.drop (i + 1)) := by
 subst hds
 exact own_drop i os h
theorem st_cell (c : DV) {ds : List DV} {os : List Owner} (hds : ds = ownsD os) (i : Nat) (h : i < os.length) : (c :: ds)[1 + i * 6]? = some (.d (.sc (.int .i64 (os[i]'h).seq))) ∧ (c :: ds)[1 + i * 6 + 1]? = some (.d (.sc (.int .i64 (os[i]'h).reply.why))) ∧ (c :: ds)[1 + i * 6 + 1 + 1]? = some (.d (.sc (.bool (os[i]'h).reply.found))) ∧
  (c :: ds)[1 + i * 6 + 1 + 2]? = some (.d (.sc (.string (os[i]'h).reply.value))) ∧ (c :: ds)[1 + i * 6 + 1 + 3]? = some (.d (.sc (.int .i64 (os[i]'h).reply.version))) ∧ (c :: ds)[1 + i * 6 + 1 + 4]? = some (.d (.slc 3 (os[i]'h).reply.pairs)) ∧
  (c :: ds)[1 + i * 6 + 2]? = some (.d (.sc (.bool (os[i]'h).reply.found))) ∧ (c :: ds)[1 + i * 6 + 3]? = some (.d (.sc (.string (os[i]'h).reply.value))) ∧ (c :: ds)[1 + i * 6 + 4]? = some (.d (.sc (.int .i64 (os[i]'h).reply.version))) ∧ (c :: ds)[1 + i * 6 + 5]? = some (.d (.slc 3 (os[i]'h).reply.pairs)) ∧
  ((c :: ds).drop (1 + i * 6)).take 1 = [.d (.sc (.int .i64 (os[i]'h).seq))] ∧ ((c :: ds).drop (1 + i * 6)).take 6 = (os[i]'h).cells ∧
  ((c :: ds).drop (1 + i * 6 + 1)).take 5 = [.d (.sc (.int .i64 (os[i]'h).reply.why)), .d (.sc (.bool (os[i]'h).reply.found)), .d (.sc (.string (os[i]'h).reply.value)), .d (.sc (.int .i64 (os[i]'h).reply.version)), .d (.slc 3 (os[i]'h).reply.pairs)] ∧ 1 + i * 6 + 6 ≤ (c :: ds).length := by
 obtain ⟨g0, g1, g2, g3, g4, g5, gt, gl⟩ := own_cell hds i h
 have gt1 := own_tail hds i h
 have qq : ∀ j, (c :: ds)[1 + i * 6 + j]? = ds[i * 6 + j]? := fun j => by
  rw [show 1 + i * 6 + j = (i * 6 + j) + 1 by omega, List.getElem?_cons_succ]
 have qd : ∀ j, (c :: ds).drop (1 + i * 6 + j) = ds.drop (i * 6 + j) := fun j => by
  rw [show 1 + i * 6 + j = (i * 6 + j) + 1 by omega, List.drop_succ_cons]
 have d0 := qd 0
 refine ⟨(qq 0).trans g0, (qq 1).trans g1, (qq 2).trans g2, (qq 3).trans g3, (qq 4).trans g4, (qq 5).trans g5, (qq 2).trans g2, (qq 3).trans g3, (qq 4).trans g4, (qq 5).trans g5, ?_, ?_, ?_, ?_⟩
 ·rw [show (c :: ds).drop (1 + i * 6) = ds.drop (i * 6) from d0, own_drop' hds i h]
  rfl
 ·rw [show (c :: ds).drop (1 + i * 6) = ds.drop (i * 6) from d0]
  exact gt
 ·rw [qd 1]
  exact gt1
 ·rw [List.length_cons]
  omega
end Go.Proofs.Ytadnpgkddgbhkaa
namespace Go.Proofs.Ytadnpgkddgbhkaa
open Go.RowKit
set_option linter.all false
set_option maxHeartbeats 4000000
def doneX (xs : List (List PD)) (c : Cmd) : List (List PD) × Reply :=
 bif decide (c.kind = 1) then (xs, ⟨0, (getP xs c.key).2, (getP xs c.key).1.value, (getP xs c.key).1.version, []⟩)
 else bif decide (c.kind = 2) then
  (bif !decide ((putX xs c.key c.val).2 = 0) then (xs, ⟨(putX xs c.key c.val).2, false, none8, 0, []⟩)
   else ((putX xs c.key c.val).1, ⟨0, (getP xs c.key).2, none8, IntKind.wrap .i64 ((getP xs c.key).1.version + 1), []⟩))
 else bif decide (c.kind = 3) then ((delX xs c.key).1, ⟨0, (getP xs c.key).2, none8, (getP xs c.key).1.version, []⟩)
 else bif decide (c.kind = 4) then
  (bif (bif !(getP xs c.key).2 then true else !decide ((getP xs c.key).1.value = c.old)) then (xs, ⟨0, false, (getP xs c.key).1.value, (getP xs c.key).1.version, []⟩)
   else ((putX xs c.key c.val).1, ⟨0, true, (getP xs c.key).1.value, IntKind.wrap .i64 ((getP xs c.key).1.version + 1), []⟩))
 else (xs, ⟨0, (rangeX xs ⟨c.key, c.fin⟩).2, none8, 0, (rangeX xs ⟨c.key, c.fin⟩).1⟩)
theorem putX_why (xs : List (List PD)) (k v : ByteArray) : (putX xs k v).2 = 0 ∨ (putX xs k v).2 = 7 := by
 unfold putX
 split
 ·exact .inl rfl
 ·split
  ·exact .inr rfl
  ·exact .inl rfl
theorem updR {c1 c2 c3 c4 c5 : DV} : UpD (.tup [c1, .agg [c2, c3, c4, c5, .d (.sc (.slice none 0 0))]]) (.tup [c1, .agg [c2, c3, c4, c5, .d (.slc 3 [])]]) :=
 ⟨_, rfl, UpL.keep (UpL.agg (UpL.keep (UpL.keep (UpL.keep (UpL.keep (UpL.nil UpL.done))))) UpL.done)⟩
structure FsDn where
 done : List (List PD) → Cmd → List (List PD) × Reply
 run : List (List PD) → Cmd → List (List PD) × Reply
 isP : List (List PD) → Prop
def FsDn0 : FsDn where
 done := doneX
 run := doneX
 isP := isP
set_option maxRecDepth 100000 in
theorem v_done (xs : List (List PD)) (c : Cmd) (hp0 : FsDn0.isP xs) : FnV Try.prog 35 [.d (.slc 3 xs), Cmd.D c] (.tup [.d (.slc 3 ((doneX xs c)).1), Reply.D (((doneX xs c)).2)]) := by
 obtain ⟨c_kind, c_client, c_seq, c_key, c_fin, c_old, c_val⟩ := c
 obtain ⟨GFsG, hGFsG⟩ : ∃ F, F = FsG0 := ⟨_, rfl⟩
 obtain ⟨GFsH, hGFsH⟩ : ∃ F, F = FsH0 := ⟨_, rfl⟩
 obtain ⟨GFsDl, hGFsDl⟩ : ∃ F, F = FsDl0 := ⟨_, rfl⟩
 obtain ⟨GFsR, hGFsR⟩ : ∃ F, F = FsR0 := ⟨_, rfl⟩
 have hH : SoundK Try.prog [kn_get GFsG, kn_put GFsH, kn_del GFsDl, kn_range GFsR] := by subst hGFsG hGFsH hGFsDl hGFsR; exact orK_ok ok_get (orK_ok ok_put (orK_ok ok_del (orK_ok ok_range noK_ok)))
 refine FnD_cbv (T := fun _ => tabY [] []) (H := fun _ => [kn_get GFsG, kn_put GFsH, kn_del GFsDl, kn_range GFsR]) (tabY_ok _ _) hH follows_mixed Try.func35 rfl Try.ntmps35 (by simp) fun A X W hA hX hW => ?_
 clear hH
 cbv
 repeat' first
  | (refine part (fun h => ?_) (fun h => ?_) <;> try cbv)
  | (refine And.intro ?_ ?_)
 all_goals subst hA hX hW hGFsG hGFsH hGFsDl hGFsR
 all_goals try (show Region.lexB _ _ = true; kernel_rfl)
 all_goals try (show turnsB _ = true; kernel_rfl)
 all_goals simp only [A0, FsG0, FsH0, FsDl0, FsR0, nc, decide_eq_true_eq, decide_eq_false_iff_not, Bool.not_eq_true', Bool.not_eq_false'] at *
 all_goals first
  | exact hp0
  | exact id
  | (intro hq; exact hq)
  | (intro hq; simpa using hq)
  | (intro _; exact hp0)
  | (refine ret_up ?_ rfl
     simp only [doneX, Reply.D]
     simp [*]
     first
      | exact updR
      | exact UpD.refl _)
  | fail
def kn_done (F : FsDn) : FuncId × (List DV → RV) := (35, fun args => match args with
 | [.d (.slc 3 xs), .agg [.d (.sc (.int .i64 c_kind)), .d (.sc (.int .i64 c_client)), .d (.sc (.int .i64 c_seq)), .d (.sc (.string c_key)), .d (.sc (.string c_fin)), .d (.sc (.string c_old)), .d (.sc (.string c_val))]] => some ([F.isP xs], .tup [.d (.slc 3 ((F.done xs ⟨c_kind, c_client, c_seq, c_key, c_fin, c_old, c_val⟩)).1), Reply.D (((F.done xs ⟨c_kind, c_client, c_seq, c_key, c_fin, c_old, c_val⟩)).2)])
 | [.d (.sc (.slice none 0 0)), .agg [.d (.sc (.int .i64 c_kind)), .d (.sc (.int .i64 c_client)), .d (.sc (.int .i64 c_seq)), .d (.sc (.string c_key)), .d (.sc (.string c_fin)), .d (.sc (.string c_old)), .d (.sc (.string c_val))]] => some ([F.isP []], .tup [.d (.slc 3 ((F.done [] ⟨c_kind, c_client, c_seq, c_key, c_fin, c_old, c_val⟩)).1), Reply.D (((F.done [] ⟨c_kind, c_client, c_seq, c_key, c_fin, c_old, c_val⟩)).2)])
 | _ => none)
theorem ok_done (args : List DV) (cs : List Prop) (r : DV) (h : (kn_done FsDn0).2 args = some (cs, r)) (hc : allP cs True) : FnV Try.prog 35 args r ∧ closedL 0 args = true := by
 unfold kn_done at h
 simp only at h
 split at h
 ·cases h; exact ⟨v_done _ ⟨_, _, _, _, _, _, _⟩ hc.1, rfl⟩
 ·cases h; exact ⟨FnP.nils (v_done [] ⟨_, _, _, _, _, _, _⟩ hc.1) ⟨.inr ⟨rfl, _, rfl⟩, ⟨.inl rfl, trivial⟩⟩, rfl⟩
 ·cases h
set_option maxRecDepth 100000 in
theorem v_run (xs : List (List PD)) (c : Cmd) (hp0 : FsDn0.isP xs) : FnV Try.prog 38 [.d (.slc 3 xs), Cmd.D c] (.tup [.d (.slc 3 ((doneX xs c)).1), Reply.D (((doneX xs c)).2)]) := by
 obtain ⟨c_kind, c_client, c_seq, c_key, c_fin, c_old, c_val⟩ := c
 obtain ⟨GFsE, hGFsE⟩ : ∃ F, F = FsE0 := ⟨_, rfl⟩
 obtain ⟨GFsG2, hGFsG2⟩ : ∃ F, F = FsG20 := ⟨_, rfl⟩
 obtain ⟨GFsF, hGFsF⟩ : ∃ F, F = FsF0 := ⟨_, rfl⟩
 have hH : SoundK Try.prog [kn_getR GFsE, kn_putR GFsG2, kn_delR GFsG2, kn_rangeR GFsF] := by subst hGFsE hGFsG2 hGFsF; exact orK_ok ok_getR (orK_ok ok_putR (orK_ok ok_delR (orK_ok ok_rangeR noK_ok)))
 refine FnD_cbv (T := fun _ => tabY [] []) (H := fun _ => [kn_getR GFsE, kn_putR GFsG2, kn_delR GFsG2, kn_rangeR GFsF]) (tabY_ok _ _) hH follows_mixed Try.func38 rfl Try.ntmps38 (by simp) fun A X W hA hX hW => ?_
 clear hH
 cbv
 repeat' first
  | (refine part (fun h => ?_) (fun h => ?_) <;> try cbv)
  | (refine And.intro ?_ ?_)
 all_goals subst hA hX hW hGFsE hGFsG2 hGFsF
 all_goals try (show Region.lexB _ _ = true; kernel_rfl)
 all_goals try (show turnsB _ = true; kernel_rfl)
 all_goals simp only [A0, FsE0, FsG20, FsF0, nc, decide_eq_true_eq, decide_eq_false_iff_not, Bool.not_eq_true', Bool.not_eq_false'] at *
 all_goals first
  | exact hp0
  | exact id
  | (intro hq; exact hq)
  | (intro hq; simpa using hq)
  | (intro _; exact hp0)
  | (refine ret_up ?_ rfl
     simp only [doneX, Reply.D]
     simp [*]
     first
      | exact updR
      | exact UpD.refl _)
  | fail
def kn_run (F : FsDn) : FuncId × (List DV → RV) := (38, fun args => match args with
 | [.d (.slc 3 xs), .agg [.d (.sc (.int .i64 c_kind)), .d (.sc (.int .i64 c_client)), .d (.sc (.int .i64 c_seq)), .d (.sc (.string c_key)), .d (.sc (.string c_fin)), .d (.sc (.string c_old)), .d (.sc (.string c_val))]] => some ([F.isP xs], .tup [.d (.slc 3 ((F.run xs ⟨c_kind, c_client, c_seq, c_key, c_fin, c_old, c_val⟩)).1), Reply.D (((F.run xs ⟨c_kind, c_client, c_seq, c_key, c_fin, c_old, c_val⟩)).2)])
 | [.d (.sc (.slice none 0 0)), .agg [.d (.sc (.int .i64 c_kind)), .d (.sc (.int .i64 c_client)), .d (.sc (.int .i64 c_seq)), .d (.sc (.string c_key)), .d (.sc (.string c_fin)), .d (.sc (.string c_old)), .d (.sc (.string c_val))]] => some ([F.isP []], .tup [.d (.slc 3 ((F.run [] ⟨c_kind, c_client, c_seq, c_key, c_fin, c_old, c_val⟩)).1), Reply.D (((F.run [] ⟨c_kind, c_client, c_seq, c_key, c_fin, c_old, c_val⟩)).2)])
 | _ => none)
theorem ok_run (args : List DV) (cs : List Prop) (r : DV) (h : (kn_run FsDn0).2 args = some (cs, r)) (hc : allP cs True) : FnV Try.prog 38 args r ∧ closedL 0 args = true := by
 unfold kn_run at h
 simp only at h
 split at h
 ·cases h; exact ⟨v_run _ ⟨_, _, _, _, _, _, _⟩ hc.1, rfl⟩
 ·cases h; exact ⟨FnP.nils (v_run [] ⟨_, _, _, _, _, _, _⟩ hc.1) ⟨.inr ⟨rfl, _, rfl⟩, ⟨.inl rfl, trivial⟩⟩, rfl⟩
 ·cases h
end Go.Proofs.Ytadnpgkddgbhkaa
namespace Go.Proofs.Ytadnpgkddgbhkaa
open Go.RowKit
set_option linter.all false
set_option maxHeartbeats 4000000
theorem isOwn.noteZ {cs : List DV} (h : isOwn cs) (r : Reply) : noteU cs 0 0 r = cs := by
 rw [noteU, own_up h]
 rfl
set_option maxRecDepth 100000 in
theorem v_copyS (xs : List (List PD)) (cs : List DV) (hp0 : isP xs) (hp1 : isOwn cs) : FnV Try.prog 33 [.agg (.d (.slc 3 xs) :: cs)] (.agg (.d (.slc 3 xs) :: cs)) := by
 have hcl := hp1.len
 have hno := hp1.noteZ zeroRep
 have hu := hp1.u
 obtain ⟨GFsK, hGFsK⟩ : ∃ F, F = FsK0 := ⟨_, rfl⟩
 obtain ⟨GFsD, hGFsD⟩ : ∃ F, F = FsD0 := ⟨_, rfl⟩
 have hH : SoundK Try.prog [kn_clone GFsK, kn_noteU GFsD] := by subst hGFsK hGFsD; exact orK_ok ok_clone (orK_ok ok_noteU noK_ok)
 refine FnD_cbv (T := fun _ => tabY [0, 1002, 1006, 1009, 1010, 5004] []) (H := fun _ => [kn_clone GFsK, kn_noteU GFsD]) (tabY_ok _ _) hH follows_mixed Try.func33 rfl Try.ntmps33 (by simp) fun A X W hA hX hW => ?_
 cbv
 have e : GFsD.noteU cs 0 0 ⟨0, false, none8, 0, []⟩ = cs := by subst hGFsD; exact hno
 cbv at e
 simp only [e]
 have hX1 : (DV.d (.slc 3 xs) :: cs).length = 49 := by rw [List.length_cons, hcl]
 repeat' (refine And.intro ?_ ?_)
 all_goals subst hA hX hW hGFsK hGFsD
 all_goals try (show Region.lexB _ _ = true; kernel_rfl)
 all_goals try (show turnsB _ = true; kernel_rfl)
 all_goals first
  | exact rfl
  | exact hp0
  | exact hp1
  | exact hu
  | exact isP.nil
  | exact id
  | (intro _; exact hu)
  | (intro _; exact hp0)
  | (intro _; exact rfl)
  | (intro hq; exact hq)
  | (show _ ≤ 1000000; rw [hX1]; decide)
  | (show List.length _ = 49 * 1; exact hX1)
  | (show List.length _ = 48 * 1; exact hcl)
  | (intro _; show List.length _ = 49 * 1; exact hX1)
  | (intro _; show List.length _ = 48 * 1; exact hcl)
  | (have h9 := isOwn.closed hp1
     exact ret_v rfl h9)
set_option maxRecDepth 100000 in
theorem v_rightS (xs : List (List PD)) (cs : List DV) (hp0 : isP xs) (hp1 : isOwn cs) : FnV Try.prog 16 [.agg (.d (.slc 3 xs) :: cs)] (boolD (stateX xs cs)) := by
 have hcl := hp1.len
 have hu := hp1.u
 obtain ⟨GFsK, hGFsK⟩ : ∃ F, F = FsK0 := ⟨_, rfl⟩
 obtain ⟨GFsD, hGFsD⟩ : ∃ F, F = FsD0 := ⟨_, rfl⟩
 have hH : SoundK Try.prog [kn_right GFsK, kn_rightU GFsD] := by subst hGFsK hGFsD; exact orK_ok ok_right (orK_ok ok_rightU noK_ok)
 refine FnD_cbv (T := fun _ => tabY [0, 1007, 5004] []) (H := fun _ => [kn_right GFsK, kn_rightU GFsD]) (tabY_ok _ _) hH follows_mixed Try.func16 rfl Try.ntmps16 (by simp) fun A X W hA hX hW => ?_
 cbv
 have hX1 : (DV.d (.slc 3 xs) :: cs).length = 49 := by rw [List.length_cons, hcl]
 repeat' (refine And.intro ?_ ?_)
 all_goals subst hA hX hW hGFsK hGFsD
 all_goals try (show Region.lexB _ _ = true; kernel_rfl)
 all_goals try (show turnsB _ = true; kernel_rfl)
 all_goals first
  | exact rfl
  | exact hp0
  | exact hp1
  | exact hu
  | exact isP.nil
  | exact id
  | (intro _; exact hu)
  | (intro _; exact hp0)
  | (intro _; exact rfl)
  | (intro hq; exact hq)
  | (show _ ≤ 1000000; rw [hX1]; decide)
  | (show List.length _ = 49 * 1; exact hX1)
  | (show List.length _ = 48 * 1; exact hcl)
  | (intro _; show List.length _ = 49 * 1; exact hX1)
  | (intro _; show List.length _ = 48 * 1; exact hcl)
  | (intro hq; simpa [A0] using hq)
  | (refine ret_v ?_ rfl
     refine congrArg boolD ?_
     have e : rightU cs = rightOs (ownersOf cs) := by rw [rightU, own_up hp1, rightO]
     simp only [A0, FsK0, FsD0, e, stateX]
     cases rightX xs <;> simp)
def isSt (s : List DV) : Prop := ∃ xs cs, upCs s = .d (.slc 3 xs) :: cs ∧ isP xs ∧ isOwn cs
theorem isSt.closed {s : List DV} (h : isSt s) : closedL 0 s = true := by
 obtain ⟨xs, cs, e, _, h2⟩ := h
 rw [← closed_upCs, e]
 have h3 := isOwn.closed h2
 exact h3
def prsS (s : List DV) : List (List PD) := A0.gl (upCs s) 0
def ownS (s : List DV) : List DV := (upCs s).tail
theorem isSt.eq {s : List DV} (h : isSt s) : upCs s = .d (.slc 3 (prsS s)) :: ownS s := by
 obtain ⟨xs, cs, e, _⟩ := h
 unfold prsS ownS
 rw [e]
 rfl
theorem isSt.prs {s : List DV} (h : isSt s) : isP (prsS s) := by
 obtain ⟨xs, cs, e, h1, h2⟩ := h
 unfold prsS
 rw [e]
 exact h1
theorem isSt.own {s : List DV} (h : isSt s) : isOwn (ownS s) := by
 obtain ⟨xs, cs, e, h1, h2⟩ := h
 unfold ownS
 rw [e]
 exact h2
theorem st_up {xs : List (List PD)} {cs : List DV} (h : isOwn cs) : upCs (.d (.slc 3 xs) :: cs) = .d (.slc 3 xs) :: cs := by
 show upC _ :: upCs cs = _
 rw [own_up h]
 rfl
theorem isSt.mk {xs : List (List PD)} {cs : List DV} (h1 : isP xs) (h2 : isOwn cs) : isSt (.d (.slc 3 xs) :: cs) := ⟨xs, cs, st_up h2, h1, h2⟩
theorem own_mk {xs : List (List PD)} {cs : List DV} (h : isOwn cs) : ownS (.d (.slc 3 xs) :: cs) = cs := by
 show upCs cs = cs
 exact own_up h
def upS (s : List DV) : List DV := upCs s
noncomputable def rightSt (s : List DV) : Bool := stateX (prsS s) (ownS s)
noncomputable def sameSt (s t : List DV) : Bool := sameS (prsS s) (ownS s) (prsS t) (ownS t)
theorem v_twinP (s : List DV) (h : isSt s) : FnV Try.prog 33 [.agg s] (.agg (upS s)) := by
 have e := h.eq
 refine FnP.ups (args := [.agg s]) (?_ : FnV Try.prog 33 [.agg (upCs s)] (.agg (upS s))) (UpL.agg (upL_upCs s) UpL.done)
 unfold upS
 rw [e]
 exact v_copyS _ _ h.prs h.own
theorem v_rightSt (s : List DV) (h : isSt s) : FnV Try.prog 16 [.agg s] (boolD (rightSt s)) := by
 have e := h.eq
 refine FnP.ups (args := [.agg s]) (?_ : FnV Try.prog 16 [.agg (upCs s)] (boolD (rightSt s))) (UpL.agg (upL_upCs s) UpL.done)
 rw [e]
 exact v_rightS _ _ h.prs h.own
structure FsS4 where
 twinP : List DV → List DV
 rightSt : List DV → Bool
 sameSt : List DV → List DV → Bool
 isSt : List DV → Prop
noncomputable def FsS40 : FsS4 where
 twinP := upS
 rightSt := rightSt
 sameSt := sameSt
 isSt := isSt
def kn_twinP (F : FsS4) : FuncId × (List DV → RV) := (33, fun args => match args with
 | [.agg s] => some ([F.isSt s], .agg ((F.twinP s)))
 | _ => none)
theorem ok_twinP (args : List DV) (cs : List Prop) (r : DV) (h : (kn_twinP FsS40).2 args = some (cs, r)) (hc : allP cs True) : FnV Try.prog 33 args r ∧ closedL 0 args = true := by
 unfold kn_twinP at h
 simp only at h
 split at h
 ·cases h; exact ⟨v_twinP _ hc.1, clo1 (isSt.closed hc.1) rfl⟩
 ·cases h
def kn_rightSt (F : FsS4) : FuncId × (List DV → RV) := (16, fun args => match args with
 | [.agg s] => some ([F.isSt s], boolD ((F.rightSt s)))
 | _ => none)
theorem ok_rightSt (args : List DV) (cs : List Prop) (r : DV) (h : (kn_rightSt FsS40).2 args = some (cs, r)) (hc : allP cs True) : FnV Try.prog 16 args r ∧ closedL 0 args = true := by
 unfold kn_rightSt at h
 simp only at h
 split at h
 ·cases h; exact ⟨v_rightSt _ hc.1, clo1 (isSt.closed hc.1) rfl⟩
 ·cases h
end Go.Proofs.Ytadnpgkddgbhkaa
namespace Go.Proofs.Ytadnpgkddgbhkaa
open Go.RowKit
set_option linter.all false
set_option maxHeartbeats 4000000
noncomputable def applyL (xs : List (List PD)) (cs : List DV) (c : Cmd) : List DV × Reply :=
 bif decide (c = .zero) then (.d (.slc 3 xs) :: cs, zeroRep)
 else bif !rightC c then (.d (.slc 3 xs) :: cs, ⟨1, false, none8, 0, []⟩)
 else bif decide ((lookU cs c.client c.seq).1 = 2) then (.d (.slc 3 xs) :: cs, (lookU cs c.client c.seq).2)
 else bif decide ((lookU cs c.client c.seq).1 = 3) then (.d (.slc 3 xs) :: cs, ⟨9, false, none8, 0, []⟩)
 else (.d (.slc 3 (doneX xs c).1) :: noteU cs c.client c.seq (doneX xs c).2, (doneX xs c).2)
theorem doneX_isP {xs : List (List PD)} (h : isP xs) (c : Cmd) : isP (doneX xs c).1 ∧ isP (doneX xs c).2.pairs := by
 have h1 := h.put c.key c.val
 have h2 := h.delX c.key
 have h3 := range_isP xs ⟨c.key, c.fin⟩
 have h4 := isP.nil
 unfold doneX
 cases decide (c.kind = 1) <;> cases decide (c.kind = 2) <;> cases decide (c.kind = 3) <;> cases decide (c.kind = 4) <;> simp only [cond_true, cond_false] <;> try exact ⟨h, h4⟩
 all_goals first
  | exact ⟨h, h3⟩
  | exact ⟨h2, h4⟩
  | skip
 all_goals first
  | (cases decide ((putX xs c.key c.val).2 = 0) <;> simp only [cond_true, cond_false, Bool.not_true, Bool.not_false] <;> first
      | exact ⟨h, h4⟩
      | exact ⟨h1, h4⟩)
  | (cases (getP xs c.key).2 <;> cases decide ((getP xs c.key).1.value = c.old) <;> simp only [cond_true, cond_false, Bool.not_true, Bool.not_false] <;> first
      | exact ⟨h, h4⟩
      | exact ⟨h1, h4⟩)
set_option maxRecDepth 100000 in
theorem v_applyL (xs : List (List PD)) (cs : List DV) (c : Cmd) (hp0 : isP xs) (hp1 : isOwn cs) : FnV Try.prog 11 [.agg (.d (.slc 3 xs) :: cs), Cmd.D c] (.tup [.agg (applyL xs cs c).1, Reply.D (applyL xs cs c).2]) := by
 have hcl := hp1.len
 have hu := hp1.u
 have hst := isSt.mk hp0 hp1
 have hup : upS (.d (.slc 3 xs) :: cs) = .d (.slc 3 xs) :: cs := st_up hp1
 obtain ⟨c_kind, c_client, c_seq, c_key, c_fin, c_old, c_val⟩ := c
 obtain ⟨GFsS4, hGFsS4⟩ : ∃ F, F = FsS40 := ⟨_, rfl⟩
 obtain ⟨GFs5, hGFs5⟩ : ∃ F, F = Fs50 := ⟨_, rfl⟩
 obtain ⟨GFsD, hGFsD⟩ : ∃ F, F = FsD0 := ⟨_, rfl⟩
 obtain ⟨GFsDn, hGFsDn⟩ : ∃ F, F = FsDn0 := ⟨_, rfl⟩
 have hH : SoundK Try.prog [kn_twinP GFsS4, kn_cright GFs5, kn_lookU GFsD, kn_done GFsDn, kn_noteU GFsD] := by subst hGFsS4 hGFs5 hGFsD hGFsDn; exact orK_ok ok_twinP (orK_ok ok_cright (orK_ok ok_lookU (orK_ok ok_done (orK_ok ok_noteU noK_ok))))
 refine FnD_cbv (T := fun _ => tabY [0, 1002, 1004, 1011, 1015, 1020, 1035, 1039, 1057, 1023, 1049, 1056, 5004] []) (H := fun _ => [kn_twinP GFsS4, kn_cright GFs5, kn_lookU GFsD, kn_done GFsDn, kn_noteU GFsD]) (tabY_ok _ _) hH follows_mixed Try.func11 rfl Try.ntmps11 (by simp) fun A X W hA hX hW => ?_
 cbv
 have hz : decide ((⟨c_kind, c_client, c_seq, c_key, c_fin, c_old, c_val⟩ : Cmd) = .zero) = A0.and (A0.cmp .eql c_kind 0) (A0.and (A0.cmp .eql c_client 0) (A0.and (A0.cmp .eql c_seq 0) (A0.and (A0.scmp .eql c_key none8) (A0.and (A0.scmp .eql c_fin none8) (A0.and (A0.scmp .eql c_old none8) (A0.and (A0.scmp .eql c_val none8) true)))))) := by
  rw [Bool.eq_iff_iff]
  simp [A0, Cmd.zero]
 have h9 := isOwn.closed hp1
 have hdn := doneX_isP hp0 ⟨c_kind, c_client, c_seq, c_key, c_fin, c_old, c_val⟩
 have hno := hu.note hdn.2 c_client c_seq
 have h8 := isOwn.closed hno
 have hll := hno.len
 have hlk := hu.look c_client c_seq
 have e : GFsS4.twinP (.d (.slc 3 xs) :: cs) = .d (.slc 3 xs) :: cs := by subst hGFsS4; exact hup
 cbv at e
 simp only [e]
 repeat' first
  | (refine part (fun h => ?_) (fun h => ?_) <;> try cbv)
  | (refine And.intro ?_ ?_)
 all_goals subst hA hX hW hGFsS4 hGFs5 hGFsD hGFsDn
 all_goals try (show Region.lexB _ _ = true; kernel_rfl)
 all_goals try (show turnsB _ = true; kernel_rfl)
 all_goals first
  | exact rfl
  | exact hp0
  | exact hu
  | exact hst
  | exact hdn.2
  | (show List.length _ ≤ 1000000; rw [List.length_cons, hcl]; decide)
  | (show List.length _ = 49 * 1; rw [List.length_cons, hcl])
  | (show List.length _ = 49 * 1; rw [List.length_cons]; exact congrArg (· + 1) hll)
  | (show List.length _ = 48 * 1; exact hcl)
  | (show List.length _ = 48 * 1; exact hll)
  | (refine ret_up ?_ ?_
     ·simp only [A0, nc, Fs50, FsD0, FsDn0] at *
      simp only [applyL, hz, *, cond_true, cond_false, Bool.not_true, Bool.not_false, zeroRep, Reply.D]
      first
       | exact UpD.refl _
       | exact updR
     ·first
       | (simp [pureD, closedD, closedL, h9, FsD0, FsDn0, nc]; done)
       | (simp only [FsD0, FsDn0, nc]; simp [pureD, closedD, closedL, h8]; done)
       | fail)
  | fail
noncomputable def applyS (s : List DV) (c : Cmd) : List DV × Reply := applyL (prsS s) (ownS s) c
theorem v_apply (s : List DV) (c : Cmd) (h : isSt s) : FnV Try.prog 11 [.agg s, Cmd.D c] (.tup [.agg (applyS s c).1, Reply.D (applyS s c).2]) := by
 have e := h.eq
 refine FnP.ups (args := [.agg s, Cmd.D c]) (?_ : FnV Try.prog 11 [.agg (upCs s), Cmd.D c] (.tup [.agg (applyS s c).1, Reply.D (applyS s c).2])) (UpL.agg (upL_upCs s) (UpL.refl' _))
 rw [e]
 exact v_applyL _ _ c h.prs h.own
structure FsS5 where
 apply : List DV → Cmd → List DV × Reply
 isSt : List DV → Prop
noncomputable def FsS50 : FsS5 where
 apply := applyS
 isSt := isSt
def kn_apply (F : FsS5) : FuncId × (List DV → RV) := (11, fun args => match args with
 | [.agg s, .agg [.d (.sc (.int .i64 c_kind)), .d (.sc (.int .i64 c_client)), .d (.sc (.int .i64 c_seq)), .d (.sc (.string c_key)), .d (.sc (.string c_fin)), .d (.sc (.string c_old)), .d (.sc (.string c_val))]] => some ([F.isSt s], .tup [.agg (((F.apply s ⟨c_kind, c_client, c_seq, c_key, c_fin, c_old, c_val⟩)).1), Reply.D (((F.apply s ⟨c_kind, c_client, c_seq, c_key, c_fin, c_old, c_val⟩)).2)])
 | _ => none)
theorem ok_apply (args : List DV) (cs : List Prop) (r : DV) (h : (kn_apply FsS50).2 args = some (cs, r)) (hc : allP cs True) : FnV Try.prog 11 args r ∧ closedL 0 args = true := by
 unfold kn_apply at h
 simp only at h
 split at h
 ·cases h; exact ⟨v_apply _ ⟨_, _, _, _, _, _, _⟩ hc.1, clo1 (isSt.closed hc.1) rfl⟩
 ·cases h
end Go.Proofs.Ytadnpgkddgbhkaa
namespace Go.Proofs.Ytadnpgkddgbhkaa
open Go.RowKit
set_option linter.all false
set_option maxHeartbeats 4000000
mutual
theorem pullD_closed (κ : List Nat) : ∀ d : DV, closedD 0 d = true → pullD κ d = d
 | .any, _ => rfl
 | .d _, _ => rfl
 | .agg cs, h => congrArg DV.agg (pullL_closed κ cs h)
 | .tup cs, h => congrArg DV.tup (pullL_closed κ cs h)
 | .ref b _ _, h => by simp [closedD] at h
 | .cref _, _ => rfl
 | .view _ b _ _ _, h => by simp [closedD] at h
 | .fn f cs, h => congrArg (DV.fn f) (pullL_closed κ cs h)
theorem pullL_closed (κ : List Nat) : ∀ ds : List DV, closedL 0 ds = true → pullL κ ds = ds
 | [], _ => rfl
 | d :: ds, h => by
     simp only [closedL, Bool.and_eq_true] at h
     show pullD κ d :: pullL κ ds = _
     rw [pullD_closed κ d h.1, pullL_closed κ ds h.2]
end
mutual
theorem fzD_closed (b v sz : Nat) (xs : List (List PD)) : ∀ d : DV, closedD 0 d = true → fzD b v sz xs d = d
 | .any, _ => rfl
 | .d _, _ => rfl
 | .agg cs, h => congrArg DV.agg (fzL_closed b v sz xs cs h)
 | .tup cs, h => congrArg DV.tup (fzL_closed b v sz xs cs h)
 | .ref b _ _, h => by simp [closedD] at h
 | .cref _, _ => rfl
 | .view _ b _ _ _, h => by simp [closedD] at h
 | .fn f cs, h => congrArg (DV.fn f) (fzL_closed b v sz xs cs h)
theorem fzL_closed (b v sz : Nat) (xs : List (List PD)) : ∀ ds : List DV, closedL 0 ds = true → fzL b v sz xs ds = ds
 | [], _ => rfl
 | d :: ds, h => by
     simp only [closedL, Bool.and_eq_true] at h
     show fzD b v sz xs d :: fzL b v sz xs ds = _
     rw [fzD_closed b v sz xs d h.1, fzL_closed b v sz xs ds h.2]
end
theorem isSt.len {s : List DV} (h : isSt s) : s.length = 49 := by
 have e := congrArg List.length h.eq
 rw [List.length_cons, h.own.len] at e
 simpa [upCs] using e
def Reply.row (r : Reply) : List PD := [.sc (.int .i64 r.why), .sc (.bool r.found), .sc (.string r.value), .sc (.int .i64 r.version), .slc 3 r.pairs]
def Cmd.row (c : Cmd) : List PD := [.sc (.int .i64 c.kind), .sc (.int .i64 c.client), .sc (.int .i64 c.seq), .sc (.string c.key), .sc (.string c.fin), .sc (.string c.old), .sc (.string c.val)]
def cmdsX (l : List Cmd) : List (List PD) := l.map Cmd.row
def isC (xs : List (List PD)) : Prop := ∃ l, xs = cmdsX l ∧ l.length ≤ 4194304
instance : Inhabited Cmd := ⟨.zero⟩
theorem cdrop {l : List Cmd} {i : Int} (h0 : 0 ≤ i) (h1 : i < l.length) : l.drop i.toNat = (l[i.toNat]'(by omega)) :: l.drop (i + 1).toNat := by
 have h : i.toNat < l.length := by omega
 rw [List.drop_eq_getElem_cons h]
 congr 2
 omega
structure FsS6 where
 of : Int → Int → Int → ByteArray → ByteArray → ByteArray → Cmd
 play : List DV → List (List PD) → List DV × List (List PD)
 isSt : List DV → Prop
 isC : List (List PD) → Prop
end Go.Proofs.Ytadnpgkddgbhkaa
