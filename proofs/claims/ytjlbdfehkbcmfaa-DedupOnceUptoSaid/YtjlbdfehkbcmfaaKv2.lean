/- Replies and owners: what the functions give. No condition. -/
import Derived.Test.YtjlbdfehkbcmfaaKv1
namespace Go.Proofs.Ytjlbdfehkbcmfaa
open Go.RowKit
set_option linter.all false

noncomputable def repliesX (a b : Reply) : Bool := @decide (a = b) (Classical.propDecidable _)
theorem repliesX_false {a b : Reply} (h : ¬ a = b) : repliesX a b = false := by simp [repliesX, h]
theorem repliesX_true {a b : Reply} (h : a = b) : repliesX a b = true := by simp [repliesX, h]
theorem repliesX_iff {a b : Reply} : repliesX a b = true ↔ a = b := by simp [repliesX]
def zeroR (r : Reply) : Bool := decide (r.why = 0) && !r.found && decide (r.value = none8) && decide (r.version = 0) && decide (r.pairs.length = 0)
def rightRep (r : Reply) : Bool := (decide (r.why = 0) || decide (r.why = 7)) && decide (r.value.size ≤ 64) && decide (0 ≤ r.version) && decide (r.pairs.length ≤ 8) && rightX r.pairs
def knownX (c : Int) : Bool := decide (1 ≤ c) && decide (c ≤ 8)
structure Owner where
  seq : Int
  reply : Reply
def Owner.cells (o : Owner) : List DV := [.d (.sc (.int .i64 o.seq)), .d (.sc (.int .i64 o.reply.why)), .d (.sc (.bool o.reply.found)), .d (.sc (.string o.reply.value)), .d (.sc (.int .i64 o.reply.version)), .d (.slc 3 o.reply.pairs)]
def ownsD (os : List Owner) : List DV := (os.map Owner.cells).flatten
def isOwn (cs : List DV) : Prop := ∃ os : List Owner, os.length = 8 ∧ cs = ownsD os ∧ ∀ o ∈ os, isP o.reply.pairs
theorem own_drop : ∀ (i : Nat) (os : List Owner) (h : i < os.length), (ownsD os).drop (i * 6) = (os[i]'h).cells ++ ownsD (os.drop (i + 1))
  | 0, o :: os, _ => rfl
  | i + 1, o :: os, h => by
      have h' : i < os.length := by simpa using h
      have e : ownsD (o :: os) = o.cells ++ ownsD os := rfl
      rw [e, Nat.succ_mul, Nat.add_comm, ← List.drop_drop]
      have e2 : (o.cells ++ ownsD os).drop 6 = ownsD os := rfl
      rw [e2, own_drop i os h']
      rfl
theorem own_pull (κ : List Nat) {cs : List DV} {os : List Owner} (hcs : cs = ownsD os) : cs.map (pullD κ) = cs := by
  subst hcs
  induction os with
  | nil => rfl
  | cons o os ih =>
    have e : ownsD (o :: os) = o.cells ++ ownsD os := rfl
    rw [e, List.map_append, ih]
    rfl
theorem own_pullL (κ : List Nat) {cs : List DV} {os : List Owner} (hcs : cs = ownsD os) : pullL κ cs = cs := (pullL_eq κ cs).trans (own_pull κ hcs)
theorem own_length : ∀ os : List Owner, (ownsD os).length = os.length * 6
  | [] => rfl
  | o :: os => by
      have e : ownsD (o :: os) = o.cells ++ ownsD os := rfl
      rw [e, List.length_append, own_length os, List.length_cons]
      have : o.cells.length = 6 := rfl
      omega
theorem own_cell {cs : List DV} {os : List Owner} (hcs : cs = ownsD os) (i : Nat) (h : i < os.length) : cs[i * 6]? = some (.d (.sc (.int .i64 (os[i]'h).seq))) ∧ cs[i * 6 + 1]? = some (.d (.sc (.int .i64 (os[i]'h).reply.why))) ∧ cs[i * 6 + 2]? = some (.d (.sc (.bool (os[i]'h).reply.found))) ∧
    cs[i * 6 + 3]? = some (.d (.sc (.string (os[i]'h).reply.value))) ∧ cs[i * 6 + 4]? = some (.d (.sc (.int .i64 (os[i]'h).reply.version))) ∧ cs[i * 6 + 5]? = some (.d (.slc 3 (os[i]'h).reply.pairs)) ∧ (cs.drop (i * 6)).take 6 = (os[i]'h).cells ∧ i * 6 + 6 ≤ cs.length := by
  have hd := own_drop i os h
  have hl := own_length os
  subst hcs
  have g : ∀ j, (ownsD os)[i * 6 + j]? = ((os[i]'h).cells ++ ownsD (os.drop (i + 1)))[j]? := fun j => by rw [← hd, List.getElem?_drop]
  refine ⟨g 0, g 1, g 2, g 3, g 4, g 5, ?_, by omega⟩
  rw [hd]
  rfl
theorem own_tail {cs : List DV} {os : List Owner} (hcs : cs = ownsD os) (i : Nat) (h : i < os.length) : (cs.drop (i * 6 + 1)).take 5 = [.d (.sc (.int .i64 (os[i]'h).reply.why)), .d (.sc (.bool (os[i]'h).reply.found)), .d (.sc (.string (os[i]'h).reply.value)), .d (.sc (.int .i64 (os[i]'h).reply.version)), .d (.slc 3 (os[i]'h).reply.pairs)] := by
  subst hcs
  rw [← List.drop_drop, own_drop i os h]
  rfl
theorem list8 {α : Type} : ∀ {l : List α}, l.length = 8 → ∃ a b c d e f g h, l = [a, b, c, d, e, f, g, h]
  | [a, b, c, d, e, f, g, h], _ => ⟨a, b, c, d, e, f, g, h, rfl⟩
noncomputable def ownOf (cs : List DV) (k : Nat) : Owner := ⟨A0.gi cs (k * 6), A0.gi cs (k * 6 + 1), A0.gb cs (k * 6 + 2), A0.gs cs (k * 6 + 3), A0.gi cs (k * 6 + 4), A0.gl cs (k * 6 + 5)⟩
theorem ownOf_D {cs : List DV} {os : List Owner} (hcs : cs = ownsD os) (i : Nat) (h : i < os.length) : ownOf cs i = os[i]'h := by
  obtain ⟨g0, g1, g2, g3, g4, g5, _, _⟩ := own_cell hcs i h
  simp only [ownOf, A0, g0, g1, g2, g3, g4, g5]
theorem splice_own : ∀ (k : Nat) (os : List Owner) (o : Owner), k < os.length → splice (ownsD os) (k * 6) o.cells = ownsD (os.set k o)
  | 0, q :: os, o, _ => rfl
  | k + 1, q :: os, o, h => by
      have h' : k < os.length := by simpa using h
      have ih := splice_own k os o h'
      have e : ownsD (q :: os) = q.cells ++ ownsD os := rfl
      have e2 : ownsD ((q :: os).set (k + 1) o) = q.cells ++ ownsD (os.set k o) := rfl
      rw [e, e2, ← ih, Nat.succ_mul]
      rfl
theorem splice_same {cs ds : List DV} {o n : Nat} (h : (cs.drop o).take n = ds) (hn : ds.length = n) : splice cs o ds = cs := by
  subst h
  simp only [splice]
  rw [hn, ← List.drop_drop, List.append_assoc, List.take_append_drop, List.take_append_drop]
theorem told_eq {k : Nat} {s s' : SL} {st st' : Store} (e : st = st') (h : toldP id s s') : Told k s st s' st' := by subst e; exact told_less h
def noteOs (os : List Owner) (client seq : Int) (r : Reply) : List Owner := bif knownX client then os.set (client - 1).toNat ⟨seq, r⟩ else os
theorem own_at {cs : List DV} {os : List Owner} (hos : os.length = 8) (hcs : cs = ownsD os) (hop : ∀ o ∈ os, isP o.reply.pairs) {client : Int} (hk : knownX client = true) : IntKind.wrap .i64 (client - 1) = client - 1 ∧ 0 ≤ client - 1 ∧ client - 1 < 8 ∧
    ∃ o : Owner, ownOf cs (client - 1).toNat = o ∧ isP o.reply.pairs ∧ cs[(client - 1).toNat * 6]? = some (.d (.sc (.int .i64 o.seq))) ∧ cs[(client - 1).toNat * 6 + 1]? = some (.d (.sc (.int .i64 o.reply.why))) ∧ cs[(client - 1).toNat * 6 + 2]? = some (.d (.sc (.bool o.reply.found))) ∧
    cs[(client - 1).toNat * 6 + 3]? = some (.d (.sc (.string o.reply.value))) ∧ cs[(client - 1).toNat * 6 + 4]? = some (.d (.sc (.int .i64 o.reply.version))) ∧ cs[(client - 1).toNat * 6 + 5]? = some (.d (.slc 3 o.reply.pairs)) ∧ (cs.drop ((client - 1).toNat * 6)).take 6 = o.cells ∧ (client - 1).toNat * 6 + 6 ≤ cs.length := by
  simp only [knownX, Bool.and_eq_true, decide_eq_true_eq] at hk
  have h : (client - 1).toNat < os.length := by omega
  exact ⟨wrap_i64 (by unfold r64; omega), by omega, by omega, _, ownOf_D hcs _ h, hop _ (List.getElem_mem h), own_cell hcs _ h⟩
def okO (o : Owner) : Bool := decide (0 ≤ o.seq) && decide (o.seq ≤ 1099511627776) && rightRep o.reply && (!decide (o.seq = 0) || zeroR o.reply)
theorem okO_eq (o : Owner) : okO o = !(bif bif bif decide (o.seq < 0) then true else decide (1099511627776 < o.seq) then true else !rightRep o.reply then true else bif decide (o.seq = 0) then !zeroR o.reply else false) := by
  have e1 : decide (0 ≤ o.seq) = !decide (o.seq < 0) := by by_cases h : o.seq < 0 <;> simp [h] <;> omega
  have e2 : decide (o.seq ≤ 1099511627776) = !decide (1099511627776 < o.seq) := by by_cases h : 1099511627776 < o.seq <;> simp [h] <;> omega
  rw [okO, e1, e2]
  cases decide (o.seq < 0) <;> cases decide (1099511627776 < o.seq) <;> cases rightRep o.reply <;> cases decide (o.seq = 0) <;> cases zeroR o.reply <;> rfl
def rightOs : List Owner → Bool
  | [] => true
  | o :: os => okO o && rightOs os
noncomputable def ownersOf (cs : List DV) : List Owner := [ownOf cs 0, ownOf cs 1, ownOf cs 2, ownOf cs 3, ownOf cs 4, ownOf cs 5, ownOf cs 6, ownOf cs 7]
theorem ownersOf_D {cs : List DV} {os : List Owner} (hos : os.length = 8) (hcs : cs = ownsD os) : ownersOf cs = os := by
  obtain ⟨a, b, c, d, e, f, g, h, rfl⟩ := list8 hos
  subst hcs
  rfl
noncomputable def rightO (cs : List DV) : Bool := rightOs (ownersOf cs)
noncomputable def stateX (xs : List (List PD)) (cs : List DV) : Bool := rightOs (ownersOf cs) && rightX xs
theorem odrop {os : List Owner} {i : Int} (h0 : 0 ≤ i) (h1 : i.toNat < os.length) : os.drop i.toNat = (os[i.toNat]'h1) :: os.drop (i + 1).toNat := by
  rw [List.drop_eq_getElem_cons h1]
  congr 2
  omega
def zeroRep : Reply := ⟨0, false, none8, 0, []⟩
theorem noteOs_length (os : List Owner) (client seq : Int) (r : Reply) : (noteOs os client seq r).length = os.length := by
  unfold noteOs
  cases knownX client <;> simp
theorem noteOs_isP {os : List Owner} (h : ∀ o ∈ os, isP o.reply.pairs) {r : Reply} (hr : isP r.pairs) (client seq : Int) : ∀ o ∈ noteOs os client seq r, isP o.reply.pairs := by
  intro o ho
  unfold noteOs at ho
  cases hk : knownX client with
  | false => rw [hk] at ho; exact h o ho
  | true =>
    rw [hk] at ho
    rcases List.mem_or_eq_of_mem_set ho with h1 | h1
    · exact h o h1
    · subst h1; exact hr
theorem own_closed : ∀ os : List Owner, closedL 0 (ownsD os) = true
  | [] => rfl
  | o :: os => own_closed os
theorem isOwn.closed {cs : List DV} (h : isOwn cs) : closedL 0 cs = true := by
  obtain ⟨os, _, rfl, _⟩ := h
  exact own_closed os
noncomputable def lookX (cs : List DV) (client seq : Int) : Int × Reply :=
  bif knownX client then (bif decide ((ownOf cs (client - 1).toNat).seq < seq) then (1, zeroRep) else bif decide (seq = (ownOf cs (client - 1).toNat).seq) then (2, (ownOf cs (client - 1).toNat).reply) else (3, zeroRep)) else (0, zeroRep)
noncomputable def noteX (cs : List DV) (client seq : Int) (r : Reply) : List DV := bif knownX client then splice cs ((client - 1).toNat * 6) (Owner.cells ⟨seq, r⟩) else cs
theorem noteX_D {cs : List DV} {os : List Owner} (hos : os.length = 8) (hcs : cs = ownsD os) (client seq : Int) (r : Reply) : noteX cs client seq r = ownsD (noteOs os client seq r) := by
  unfold noteX noteOs
  cases hk : knownX client with
  | false => exact hcs
  | true =>
    simp only [knownX, Bool.and_eq_true, decide_eq_true_eq] at hk
    rw [hcs]
    exact splice_own _ _ _ (by omega)
def idR (r : Reply) : Reply := r
def foundX : Reply := ⟨0, true, none8, 0, []⟩

/-- Cells that hold nothing hold a settled slice without elements. -/
def upC : DV → DV
  | .d (.sc (.slice none 0 0)) => .d (.slc 3 [])
  | d => d
def upCs (cs : List DV) : List DV := cs.map upC
theorem upC_cases (d : DV) : upC d = d ∨ (d = .d (.sc (.slice none 0 0)) ∧ upC d = .d (.slc 3 [])) := by
  unfold upC
  split
  · exact .inr ⟨rfl, rfl⟩
  · exact .inl rfl
theorem upL_upCs : ∀ cs : List DV, UpL cs (upCs cs)
  | [] => UpL.done
  | c :: cs => by
      rcases upC_cases c with h | ⟨h, h2⟩
      · have e : upCs (c :: cs) = c :: upCs cs := by simp [upCs, h]
        rw [e]
        exact UpL.keep (upL_upCs cs)
      · have e : upCs (c :: cs) = .d (.slc 3 []) :: upCs cs := by simp [upCs, h2]
        rw [e, h]
        exact UpL.nil (upL_upCs cs)
theorem closed_upCs : ∀ cs : List DV, closedL 0 (upCs cs) = closedL 0 cs
  | [] => rfl
  | c :: cs => by
      have e : upCs (c :: cs) = upC c :: upCs cs := rfl
      rw [e]
      simp only [closedL, closed_upCs cs]
      rcases upC_cases c with h | ⟨h, h2⟩
      · rw [h]
      · rw [h2, h]; rfl
def isOwnU (cs : List DV) : Prop := isOwn (upCs cs)
theorem isOwnU.closed {cs : List DV} (h : isOwnU cs) : closedL 0 cs = true := (closed_upCs cs).symm.trans (isOwn.closed h)
theorem clo1 {cs rest : List DV} (h : closedL 0 cs = true) (h2 : closedL 0 rest = true) : closedL 0 (.agg cs :: rest) = true := by simp only [closedL, closedD, h, h2, Bool.and_self]
theorem own_up {cs : List DV} (h : isOwn cs) : upCs cs = cs := by
  obtain ⟨os, h1, rfl, h2⟩ := h
  clear h1 h2
  induction os with
  | nil => rfl
  | cons o os ih =>
    have e : ownsD (o :: os) = o.cells ++ ownsD os := rfl
    have e2 : upCs (o.cells ++ ownsD os) = upCs o.cells ++ upCs (ownsD os) := List.map_append ..
    have e3 : upCs o.cells = o.cells := rfl
    rw [e, e2, e3, ih]
theorem isOwn.u {cs : List DV} (h : isOwn cs) : isOwnU cs := by
  unfold isOwnU
  rw [own_up h]
  exact h
noncomputable def lookU (cs : List DV) (client seq : Int) : Int × Reply := lookX (upCs cs) client seq
noncomputable def noteU (cs : List DV) (client seq : Int) (r : Reply) : List DV := noteX (upCs cs) client seq r
noncomputable def rightU (cs : List DV) : Bool := rightO (upCs cs)
noncomputable def stateU (xs : List (List PD)) (cs : List DV) : Bool := stateX xs (upCs cs)
theorem replies_zero (r : Reply) : repliesX r ⟨0, false, none8, 0, []⟩ = zeroR r := by
  rw [Bool.eq_iff_iff, repliesX_iff]
  obtain ⟨a, b, c, d, e⟩ := r
  simp [zeroR, and_assoc]

structure FsR where
  state : List (List PD) → List DV → Bool
  isOwn : List DV → Prop
  r64 : Int → Prop
  replies : Reply → Reply → Bool
  zero : Reply → Bool
  rrep : Reply → Bool
  rrepR : Reply → Bool
  copied : Reply → Reply
  known : Int → Bool
  found : Reply
  isP : List (List PD) → Prop
noncomputable def FsR0 : FsR where
  state := stateU
  isOwn := isOwnU
  r64 := r64
  replies := repliesX
  zero := zeroR
  rrep := rightRep
  rrepR := rightRep
  copied := idR
  known := knownX
  found := foundX
  isP := isP
set_option maxRecDepth 100000 in
theorem v_known (c : Int) : FnV Try.prog 17 [intD c] (boolD ((knownX c))) := by
  refine FnD_cbv (T := fun _ => tabY [] []) (H := fun _ => []) (tabY_ok _ _) noK_ok follows_mixed Try.func17 rfl Try.ntmps17 (by simp) fun A X W hA hX hW => ?_
  cbv
  repeat' first
    | (refine part (fun h => ?_) (fun h => ?_) <;> try cbv)
    | (refine And.intro ?_ ?_)
  all_goals subst hA hX hW
  all_goals try (show Region.lexB _ _ = true; kernel_rfl)
  all_goals try (show turnsB _ = true; kernel_rfl)
  all_goals simp only [A0, FsR0, decide_eq_true_eq, decide_eq_false_iff_not, Bool.not_eq_true', Bool.not_eq_false'] at *
  all_goals first
    | (refine ret_v ?_ rfl
       first
         | rfl
         | (simp_all [knownX, boolD, intD, strD]; done)
         | (simp_all [knownX, boolD, intD, strD]; rfl)
         | (simp only [knownX, boolD, intD, strD] at *; congr 3; grind)
         | (simp only [knownX, boolD, intD, strD] at *; grind))
    | (intros; simp_all [bytes1, maxLen]; done)
    | (intros; simp only [bytes1, maxLen] at *; omega)
    | grind
def kn_known (F : FsR) : FuncId × (List DV → RV) := (17, fun args => match args with
  | [.d (.sc (.int .i64 c))] => some ([], boolD ((F.known c)))
  | _ => none)
theorem ok_known (args : List DV) (cs : List Prop) (r : DV) (h : (kn_known FsR0).2 args = some (cs, r)) (hc : allP cs True) : FnV Try.prog 17 args r ∧ closedL 0 args = true := by
  unfold kn_known at h
  simp only at h
  split at h
  · cases h; exact ⟨v_known _, rfl⟩
  · cases h
set_option maxRecDepth 100000 in
theorem v_zero (r : Reply) : FnV Try.prog 22 [Reply.D r] (boolD ((zeroR r))) := by
  obtain ⟨r_why, r_found, r_value, r_version, r_pairs⟩ := r
  refine FnD_cbv (T := fun _ => tabY [] []) (H := fun _ => []) (tabY_ok _ _) noK_ok follows_mixed Try.func22 rfl Try.ntmps22 (by simp) fun A X W hA hX hW => ?_
  cbv
  repeat' first
    | (refine part (fun h => ?_) (fun h => ?_) <;> try cbv)
    | (refine And.intro ?_ ?_)
  all_goals subst hA hX hW
  all_goals try (show Region.lexB _ _ = true; kernel_rfl)
  all_goals try (show turnsB _ = true; kernel_rfl)
  all_goals simp only [A0, FsR0, decide_eq_true_eq, decide_eq_false_iff_not, Bool.not_eq_true', Bool.not_eq_false'] at *
  all_goals first
    | (refine ret_v ?_ rfl
       first
         | rfl
         | (simp_all [zeroR, Reply.D, boolD, intD, strD]; done)
         | (simp_all [zeroR, Reply.D, boolD, intD, strD]; rfl)
         | (simp only [zeroR, Reply.D, boolD, intD, strD] at *; congr 3; grind)
         | (simp only [zeroR, Reply.D, boolD, intD, strD] at *; grind))
    | (intros; simp_all [bytes1, maxLen]; done)
    | (intros; simp only [bytes1, maxLen] at *; omega)
    | grind
def kn_zero (F : FsR) : FuncId × (List DV → RV) := (22, fun args => match args with
  | [.agg [.d (.sc (.int .i64 r_why)), .d (.sc (.bool r_found)), .d (.sc (.string r_value)), .d (.sc (.int .i64 r_version)), .d (.slc 3 r_pairs)]] => some ([], boolD ((F.zero ⟨r_why, r_found, r_value, r_version, r_pairs⟩)))
  | [.agg [.d (.sc (.int .i64 r_why)), .d (.sc (.bool r_found)), .d (.sc (.string r_value)), .d (.sc (.int .i64 r_version)), .d (.sc (.slice none 0 0))]] => some ([], boolD ((F.zero ⟨r_why, r_found, r_value, r_version, []⟩)))
  | _ => none)
theorem ok_zero (args : List DV) (cs : List Prop) (r : DV) (h : (kn_zero FsR0).2 args = some (cs, r)) (hc : allP cs True) : FnV Try.prog 22 args r ∧ closedL 0 args = true := by
  unfold kn_zero at h
  simp only at h
  split at h
  · cases h; exact ⟨v_zero ⟨_, _, _, _, _⟩, rfl⟩
  · cases h; exact ⟨FnP.ups (v_zero ⟨_, _, _, _, []⟩) (UpL.agg (UpL.keep (UpL.keep (UpL.keep (UpL.keep (UpL.nil UpL.done))))) UpL.done), rfl⟩
  · cases h
set_option maxRecDepth 100000 in
theorem v_rrep (r : Reply) (hp0 : FsR0.isP r.pairs) : FnV Try.prog 21 [Reply.D r] (boolD ((rightRep r))) := by
  obtain ⟨r_why, r_found, r_value, r_version, r_pairs⟩ := r
  obtain ⟨GFsK, hGFsK⟩ : ∃ F, F = FsK0 := ⟨_, rfl⟩
  have hH : SoundK Try.prog [kn_right GFsK] := by subst hGFsK; exact orK_ok ok_right noK_ok
  refine FnD_cbv (T := fun _ => tabY [] []) (H := fun _ => [kn_right GFsK]) (tabY_ok _ _) hH follows_mixed Try.func21 rfl Try.ntmps21 (by simp) fun A X W hA hX hW => ?_
  clear hH
  cbv
  repeat' first
    | (refine part (fun h => ?_) (fun h => ?_) <;> try cbv)
    | (refine And.intro ?_ ?_)
  all_goals subst hA hX hW hGFsK
  all_goals try (show Region.lexB _ _ = true; kernel_rfl)
  all_goals try (show turnsB _ = true; kernel_rfl)
  all_goals simp only [A0, FsK0, FsR0, decide_eq_true_eq, decide_eq_false_iff_not, Bool.not_eq_true', Bool.not_eq_false'] at *
  all_goals first
    | (refine ret_v ?_ rfl
       first
         | rfl
         | (simp_all [rightRep, Reply.D, boolD, intD, strD]; done)
         | (simp_all [rightRep, Reply.D, boolD, intD, strD]; rfl)
         | (simp only [rightRep, Reply.D, boolD, intD, strD] at *; congr 3; grind)
         | (simp only [rightRep, Reply.D, boolD, intD, strD] at *; grind))
    | (intros; simp_all [bytes1, maxLen]; done)
    | (intros; simp only [bytes1, maxLen] at *; omega)
    | grind
def kn_rrep (F : FsR) : FuncId × (List DV → RV) := (21, fun args => match args with
  | [.agg [.d (.sc (.int .i64 r_why)), .d (.sc (.bool r_found)), .d (.sc (.string r_value)), .d (.sc (.int .i64 r_version)), .d (.slc 3 r_pairs)]] => some ([F.isP r_pairs], boolD ((F.rrep ⟨r_why, r_found, r_value, r_version, r_pairs⟩)))
  | [.agg [.d (.sc (.int .i64 r_why)), .d (.sc (.bool r_found)), .d (.sc (.string r_value)), .d (.sc (.int .i64 r_version)), .d (.sc (.slice none 0 0))]] => some ([F.isP []], boolD ((F.rrep ⟨r_why, r_found, r_value, r_version, []⟩)))
  | _ => none)
theorem ok_rrep (args : List DV) (cs : List Prop) (r : DV) (h : (kn_rrep FsR0).2 args = some (cs, r)) (hc : allP cs True) : FnV Try.prog 21 args r ∧ closedL 0 args = true := by
  unfold kn_rrep at h
  simp only at h
  split at h
  · cases h; exact ⟨v_rrep ⟨_, _, _, _, _⟩ hc.1, rfl⟩
  · cases h; exact ⟨FnP.ups (v_rrep ⟨_, _, _, _, []⟩ hc.1) (UpL.agg (UpL.keep (UpL.keep (UpL.keep (UpL.keep (UpL.nil UpL.done))))) UpL.done), rfl⟩
  · cases h
set_option maxRecDepth 100000 in
theorem v_rrepR (r : Reply) (hp0 : FsR0.isP r.pairs) : FnV Try.prog 19 [Reply.D r] (boolD ((rightRep r))) := by
  obtain ⟨r_why, r_found, r_value, r_version, r_pairs⟩ := r
  obtain ⟨GFsK, hGFsK⟩ : ∃ F, F = FsK0 := ⟨_, rfl⟩
  have hH : SoundK Try.prog [kn_rightR GFsK] := by subst hGFsK; exact orK_ok ok_rightR noK_ok
  refine FnD_cbv (T := fun _ => tabY [] []) (H := fun _ => [kn_rightR GFsK]) (tabY_ok _ _) hH follows_mixed Try.func19 rfl Try.ntmps19 (by simp) fun A X W hA hX hW => ?_
  clear hH
  cbv
  repeat' first
    | (refine part (fun h => ?_) (fun h => ?_) <;> try cbv)
    | (refine And.intro ?_ ?_)
  all_goals subst hA hX hW hGFsK
  all_goals try (show Region.lexB _ _ = true; kernel_rfl)
  all_goals try (show turnsB _ = true; kernel_rfl)
  all_goals simp only [A0, FsK0, FsR0, decide_eq_true_eq, decide_eq_false_iff_not, Bool.not_eq_true', Bool.not_eq_false'] at *
  all_goals first
    | (refine ret_v ?_ rfl
       first
         | rfl
         | (simp_all [rightRep, Reply.D, boolD, intD, strD]; done)
         | (simp_all [rightRep, Reply.D, boolD, intD, strD]; rfl)
         | (simp only [rightRep, Reply.D, boolD, intD, strD] at *; congr 3; grind)
         | (simp only [rightRep, Reply.D, boolD, intD, strD] at *; grind))
    | (intros; simp_all [bytes1, maxLen]; done)
    | (intros; simp only [bytes1, maxLen] at *; omega)
    | grind
def kn_rrepR (F : FsR) : FuncId × (List DV → RV) := (19, fun args => match args with
  | [.agg [.d (.sc (.int .i64 r_why)), .d (.sc (.bool r_found)), .d (.sc (.string r_value)), .d (.sc (.int .i64 r_version)), .d (.slc 3 r_pairs)]] => some ([F.isP r_pairs], boolD ((F.rrepR ⟨r_why, r_found, r_value, r_version, r_pairs⟩)))
  | [.agg [.d (.sc (.int .i64 r_why)), .d (.sc (.bool r_found)), .d (.sc (.string r_value)), .d (.sc (.int .i64 r_version)), .d (.sc (.slice none 0 0))]] => some ([F.isP []], boolD ((F.rrepR ⟨r_why, r_found, r_value, r_version, []⟩)))
  | _ => none)
theorem ok_rrepR (args : List DV) (cs : List Prop) (r : DV) (h : (kn_rrepR FsR0).2 args = some (cs, r)) (hc : allP cs True) : FnV Try.prog 19 args r ∧ closedL 0 args = true := by
  unfold kn_rrepR at h
  simp only at h
  split at h
  · cases h; exact ⟨v_rrepR ⟨_, _, _, _, _⟩ hc.1, rfl⟩
  · cases h; exact ⟨FnP.ups (v_rrepR ⟨_, _, _, _, []⟩ hc.1) (UpL.agg (UpL.keep (UpL.keep (UpL.keep (UpL.keep (UpL.nil UpL.done))))) UpL.done), rfl⟩
  · cases h
set_option maxRecDepth 100000 in
theorem v_copied (r : Reply) (hp0 : FsR0.isP r.pairs) : FnV Try.prog 18 [Reply.D r] (Reply.D ((idR r))) := by
  obtain ⟨r_why, r_found, r_value, r_version, r_pairs⟩ := r
  obtain ⟨GFsK, hGFsK⟩ : ∃ F, F = FsK0 := ⟨_, rfl⟩
  have hH : SoundK Try.prog [kn_clone GFsK] := by subst hGFsK; exact orK_ok ok_clone noK_ok
  refine FnD_cbv (T := fun _ => tabY [] []) (H := fun _ => [kn_clone GFsK]) (tabY_ok _ _) hH follows_mixed Try.func18 rfl Try.ntmps18 (by simp) fun A X W hA hX hW => ?_
  clear hH
  cbv
  repeat' first
    | (refine part (fun h => ?_) (fun h => ?_) <;> try cbv)
    | (refine And.intro ?_ ?_)
  all_goals subst hA hX hW hGFsK
  all_goals try (show Region.lexB _ _ = true; kernel_rfl)
  all_goals try (show turnsB _ = true; kernel_rfl)
  all_goals simp only [A0, FsK0, FsR0, decide_eq_true_eq, decide_eq_false_iff_not, Bool.not_eq_true', Bool.not_eq_false'] at *
  all_goals first
    | (refine ret_v ?_ rfl
       first
         | rfl
         | (simp_all [idR, Reply.D, boolD, intD, strD]; done)
         | (simp_all [idR, Reply.D, boolD, intD, strD]; rfl)
         | (simp only [idR, Reply.D, boolD, intD, strD] at *; congr 3; grind)
         | (simp only [idR, Reply.D, boolD, intD, strD] at *; grind))
    | (intros; simp_all [bytes1, maxLen]; done)
    | (intros; simp only [bytes1, maxLen] at *; omega)
    | grind
def kn_copied (F : FsR) : FuncId × (List DV → RV) := (18, fun args => match args with
  | [.agg [.d (.sc (.int .i64 r_why)), .d (.sc (.bool r_found)), .d (.sc (.string r_value)), .d (.sc (.int .i64 r_version)), .d (.slc 3 r_pairs)]] => some ([F.isP r_pairs], Reply.D ((F.copied ⟨r_why, r_found, r_value, r_version, r_pairs⟩)))
  | [.agg [.d (.sc (.int .i64 r_why)), .d (.sc (.bool r_found)), .d (.sc (.string r_value)), .d (.sc (.int .i64 r_version)), .d (.sc (.slice none 0 0))]] => some ([F.isP []], Reply.D ((F.copied ⟨r_why, r_found, r_value, r_version, []⟩)))
  | _ => none)
theorem ok_copied (args : List DV) (cs : List Prop) (r : DV) (h : (kn_copied FsR0).2 args = some (cs, r)) (hc : allP cs True) : FnV Try.prog 18 args r ∧ closedL 0 args = true := by
  unfold kn_copied at h
  simp only at h
  split at h
  · cases h; exact ⟨v_copied ⟨_, _, _, _, _⟩ hc.1, rfl⟩
  · cases h; exact ⟨FnP.ups (v_copied ⟨_, _, _, _, []⟩ hc.1) (UpL.agg (UpL.keep (UpL.keep (UpL.keep (UpL.keep (UpL.nil UpL.done))))) UpL.done), rfl⟩
  · cases h
set_option maxRecDepth 100000 in
theorem v_found : FnV Try.prog 9 [] (Reply.D foundX) := by
  refine FnD_cbv (T := fun _ => tabY [] []) (H := fun _ => []) (tabY_ok _ _) noK_ok follows_mixed Try.func9 rfl Try.ntmps9 (by simp) fun A X W hA hX hW => ?_
  cbv
  subst hA hX hW
  exact ret_up ⟨_, rfl, UpL.keep (UpL.keep (UpL.keep (UpL.keep (UpL.nil UpL.done))))⟩ rfl
def kn_found (F : FsR) : FuncId × (List DV → RV) := (9, fun args => match args with
  | [] => some ([], Reply.D F.found)
  | _ => none)
theorem ok_found (args : List DV) (cs : List Prop) (r : DV) (h : (kn_found FsR0).2 args = some (cs, r)) (hc : allP cs True) : FnV Try.prog 9 args r ∧ closedL 0 args = true := by
  unfold kn_found at h
  simp only at h
  split at h
  · cases h; exact ⟨v_found, rfl⟩
  · cases h
set_option maxRecDepth 100000 in
theorem v_replies (a : Reply) (b : Reply) (hp0 : FsR0.isP a.pairs) (hp1 : FsR0.isP b.pairs) : FnV Try.prog 14 [Reply.D a, Reply.D b] (boolD ((repliesX a b))) := by
  obtain ⟨a_why, a_found, a_value, a_version, a_pairs⟩ := a
  obtain ⟨b_why, b_found, b_value, b_version, b_pairs⟩ := b
  obtain ⟨ps, hxs, hl⟩ := hp0
  obtain ⟨qs, hys, hm⟩ := hp1
  simp only at hxs hys
  have hlx : a_pairs.length = ps.length := by rw [hxs]; exact pairsX_length ps
  have hly : b_pairs.length = qs.length := by rw [hys]; exact pairsX_length qs
  refine FnD_cbv (T := fun _ => tabY [51, 56] []) (H := fun _ => []) (tabY_ok _ _) noK_ok follows_mixed Try.func14 rfl Try.ntmps14 (by simp) fun A X W hA hX hW => ?_
  cbv
  repeat' (refine And.intro ?_ ?_)
  all_goals try (subst hA; intro hq; exact hq)
  all_goals try (subst hA; intro hq; simpa [A0] using hq)
  refine part (fun h => ?_) (fun h => ?_)
  · cbv
    subst hA hX hW
    refine ret_v ?_ rfl
    refine congrArg boolD (repliesX_false ?_).symm
    intro e
    injection e with e1 e2 e3 e4 e5
    subst e1 e2 e3 e4 e5
    simp [A0] at h
  · cbv
    refine loopL (T := fun _ => tabY [51, 56] []) (H := fun _ => []) (tabY_ok _ _) noK_ok follows_mixed hA hX (fun i : Int => 0 ≤ i ∧ i ≤ ps.length ∧ ps.take i.toNat = qs.take i.toNat)
      (fun i => [(2, .ref 0 0 0), (3, .ref 1 0 0), (5, .d (.sc (.int .i64 i)))]) (fun _ => [⟨25, [.d (.sc (.int .i64 a_why)), .d (.sc (.bool a_found)), .d (.sc (.string a_value)), .d (.sc (.int .i64 a_version)), .d (.slc 3 a_pairs)], false, 0, true⟩, ⟨25, [.d (.sc (.int .i64 b_why)), .d (.sc (.bool b_found)), .d (.sc (.string b_value)), .d (.sc (.int .i64 b_version)), .d (.slc 3 b_pairs)], false, 0, true⟩])
      (fun i => (ps.length : Int).toNat - i.toNat) 0 ?_ ?_ ?_
    · exact ⟨by omega, by omega, by simp⟩
    · exact told_less (by simp [toldP, getS])
    rintro R i hR ⟨i0, i1, i2⟩
    cbv
    have hh : a_why = b_why ∧ a_found = b_found ∧ a_value = b_value ∧ a_version = b_version ∧ ps.length = qs.length := by
      subst hA
      simp only [A0] at h
      simp [hlx, hly] at h
      obtain ⟨⟨⟨⟨h1, h2⟩, h3⟩, h4⟩, h5⟩ := h
      exact ⟨h1, h2, h3, h4, by omega⟩
    refine part (fun h2 => ?_) (fun h2 => ?_)
    · cbv
      replace hlx : a_pairs.length = ps.length := hlx
      replace hly : b_pairs.length = qs.length := hly
      replace i0 : 0 ≤ i := i0
      replace hl : ps.length ≤ 4194304 := hl
      replace hh : a_why = b_why ∧ a_found = b_found ∧ a_value = b_value ∧ a_version = b_version ∧ ps.length = qs.length := hh
      have hi : i < (ps.length : Int) := by
        subst hA
        simp only [A0, decide_eq_true_eq] at h2
        replace h2 : i < (a_pairs.length : Int) := h2
        omega
      have hj : i < (qs.length : Int) := by omega
      have hrx := prow hxs i0 hi
      have hry := prow hys i0 hj
      have hdx := List.take_succ_eq_append_getElem (show i.toNat < ps.length by omega)
      have hdy := List.take_succ_eq_append_getElem (show i.toNat < qs.length by omega)
      have hgx : ps[i.toNat]? = some (ps[i.toNat]'(by omega)) := List.getElem?_eq_getElem _
      have hgy : qs[i.toNat]? = some (qs[i.toNat]'(by omega)) := List.getElem?_eq_getElem _
      generalize ps[i.toNat]'(by omega) = p at hrx hdx hgx
      generalize qs[i.toNat]'(by omega) = q at hry hdy hgy
      repeat' first
        | (refine part (fun h3 => ?_) (fun h3 => ?_) <;> try cbv)
        | (refine And.intro ?_ ?_)
      all_goals subst hA hX hW hR
      all_goals first
        | (show Region.lexB _ _ = true; kernel_rfl)
        | rfl
        | (show 0 ≤ i ∧ i < (a_pairs.length : Int); omega)
        | (show 0 ≤ i ∧ i < (b_pairs.length : Int); omega)
        | (simp only [A0, hrx]; simp [Pair.row]; done)
        | (simp only [A0, hry]; simp [Pair.row]; done)
        | skip
      · refine ret_v ?_ rfl
        refine congrArg boolD (repliesX_false ?_).symm
        intro e
        injection e with e1 e2 e3 e4 e5
        have e6 : ps = qs := by rw [← pairsOf_X ps, ← pairsOf_X qs, ← hxs, ← hys, e5]
        subst e6
        rw [hgx] at hgy
        have e7 : p = q := Option.some.inj hgy
        subst e7
        simp only [A0, hrx, hry] at h3
        simp [Pair.row] at h3
      · have e7 : p = q := by
          simp only [A0, hrx, hry] at h3
          simp [Pair.row] at h3
          obtain ⟨p1, p2, p3⟩ := p
          obtain ⟨q1, q2, q3⟩ := q
          simp_all
        have hi' : i < (ps.length : Int) := hi
        have hl' : ps.length ≤ 4194304 := hl
        have i0' : 0 ≤ i := i0
        have hw : IntKind.wrap .i64 (i + 1) = i + 1 := wrap_i64 (by unfold r64; omega)
        refine ⟨i + 1, ⟨by omega, by omega, ?_⟩, by omega, told_less ?_⟩
        · rw [show (i + 1).toNat = i.toNat + 1 by omega, hdx, hdy, i2, e7]
        · simp [toldP, getS, A0, hw]
    · cbv
      replace hlx : a_pairs.length = ps.length := hlx
      replace i1 : i ≤ (ps.length : Int) := i1
      replace hh : a_why = b_why ∧ a_found = b_found ∧ a_value = b_value ∧ a_version = b_version ∧ ps.length = qs.length := hh
      subst hA hX hW hR
      simp only [A0, decide_eq_false_iff_not] at h2
      replace h2 : ¬ i < (a_pairs.length : Int) := h2
      refine ret_v ?_ rfl
      have hil : i.toNat = ps.length := by omega
      rw [hil, List.take_length, hh.2.2.2.2, List.take_length] at i2
      obtain ⟨e1, e2, e3, e4, _⟩ := hh
      refine congrArg boolD (repliesX_true ?_).symm
      rw [e1, e2, e3, e4, hxs, hys, i2]
def kn_replies (F : FsR) : FuncId × (List DV → RV) := (14, fun args => match args with
  | [.agg [.d (.sc (.int .i64 a_why)), .d (.sc (.bool a_found)), .d (.sc (.string a_value)), .d (.sc (.int .i64 a_version)), .d (.slc 3 a_pairs)], .agg [.d (.sc (.int .i64 b_why)), .d (.sc (.bool b_found)), .d (.sc (.string b_value)), .d (.sc (.int .i64 b_version)), .d (.slc 3 b_pairs)]] => some ([F.isP a_pairs, F.isP b_pairs], boolD ((F.replies ⟨a_why, a_found, a_value, a_version, a_pairs⟩ ⟨b_why, b_found, b_value, b_version, b_pairs⟩)))
  | [.agg [.d (.sc (.int .i64 a_why)), .d (.sc (.bool a_found)), .d (.sc (.string a_value)), .d (.sc (.int .i64 a_version)), .d (.sc (.slice none 0 0))], .agg [.d (.sc (.int .i64 b_why)), .d (.sc (.bool b_found)), .d (.sc (.string b_value)), .d (.sc (.int .i64 b_version)), .d (.slc 3 b_pairs)]] => some ([F.isP [], F.isP b_pairs], boolD ((F.replies ⟨a_why, a_found, a_value, a_version, []⟩ ⟨b_why, b_found, b_value, b_version, b_pairs⟩)))
  | [.agg [.d (.sc (.int .i64 a_why)), .d (.sc (.bool a_found)), .d (.sc (.string a_value)), .d (.sc (.int .i64 a_version)), .d (.slc 3 a_pairs)], .agg [.d (.sc (.int .i64 b_why)), .d (.sc (.bool b_found)), .d (.sc (.string b_value)), .d (.sc (.int .i64 b_version)), .d (.sc (.slice none 0 0))]] => some ([F.isP a_pairs, F.isP []], boolD ((F.replies ⟨a_why, a_found, a_value, a_version, a_pairs⟩ ⟨b_why, b_found, b_value, b_version, []⟩)))
  | [.agg [.d (.sc (.int .i64 a_why)), .d (.sc (.bool a_found)), .d (.sc (.string a_value)), .d (.sc (.int .i64 a_version)), .d (.sc (.slice none 0 0))], .agg [.d (.sc (.int .i64 b_why)), .d (.sc (.bool b_found)), .d (.sc (.string b_value)), .d (.sc (.int .i64 b_version)), .d (.sc (.slice none 0 0))]] => some ([F.isP [], F.isP []], boolD ((F.replies ⟨a_why, a_found, a_value, a_version, []⟩ ⟨b_why, b_found, b_value, b_version, []⟩)))
  | _ => none)
theorem ok_replies (args : List DV) (cs : List Prop) (r : DV) (h : (kn_replies FsR0).2 args = some (cs, r)) (hc : allP cs True) : FnV Try.prog 14 args r ∧ closedL 0 args = true := by
  unfold kn_replies at h
  simp only at h
  split at h
  · cases h; exact ⟨v_replies ⟨_, _, _, _, _⟩ ⟨_, _, _, _, _⟩ hc.1 hc.2.1, rfl⟩
  · cases h; exact ⟨FnP.ups (v_replies ⟨_, _, _, _, []⟩ ⟨_, _, _, _, _⟩ hc.1 hc.2.1) (UpL.agg (UpL.keep (UpL.keep (UpL.keep (UpL.keep (UpL.nil UpL.done))))) (UpL.agg (UpL.keep (UpL.keep (UpL.keep (UpL.keep (UpL.keep UpL.done))))) UpL.done)), rfl⟩
  · cases h; exact ⟨FnP.ups (v_replies ⟨_, _, _, _, _⟩ ⟨_, _, _, _, []⟩ hc.1 hc.2.1) (UpL.agg (UpL.keep (UpL.keep (UpL.keep (UpL.keep (UpL.keep UpL.done))))) (UpL.agg (UpL.keep (UpL.keep (UpL.keep (UpL.keep (UpL.nil UpL.done))))) UpL.done)), rfl⟩
  · cases h; exact ⟨FnP.ups (v_replies ⟨_, _, _, _, []⟩ ⟨_, _, _, _, []⟩ hc.1 hc.2.1) (UpL.agg (UpL.keep (UpL.keep (UpL.keep (UpL.keep (UpL.nil UpL.done))))) (UpL.agg (UpL.keep (UpL.keep (UpL.keep (UpL.keep (UpL.nil UpL.done))))) UpL.done)), rfl⟩
  · cases h
set_option maxRecDepth 100000 in
theorem v_look (cs : List DV) (client : Int) (seq : Int) (hp0 : isOwn cs) : FnV Try.prog 13 [.agg cs, intD client, intD seq] (.tup [intD (((lookX cs client seq)).1), Reply.D (((lookX cs client seq)).2)]) := by
  obtain ⟨os, hos, hcs, hop⟩ := hp0
  obtain ⟨F, hF⟩ : ∃ F, F = FsR0 := ⟨_, rfl⟩
  have hH : SoundK Try.prog [kn_known F, kn_copied F] := by subst hF; exact orK_ok ok_known (orK_ok ok_copied noK_ok)
  refine FnD_cbv (T := fun _ => tabY [0, 15] []) (H := fun _ => [kn_known F, kn_copied F]) (tabY_ok _ _) hH follows_mixed Try.func13 rfl Try.ntmps13 (by simp) fun A X W hA hX hW => ?_
  clear hH
  cbv
  refine And.intro (by subst hA; show cs.length ≤ 1000000; rw [hcs, own_length]; omega) ?_
  refine part (fun hk => ?_) (fun hk => ?_) <;> cbv
  · subst hA hX hW hF
    replace hk : knownX client = false := by simpa [A0, FsR0] using hk
    refine ret_up ?_ rfl
    rw [lookX, hk]
    exact ⟨_, rfl, UpL.keep (UpL.agg (UpL.keep (UpL.keep (UpL.keep (UpL.keep (UpL.nil UpL.done))))) UpL.done)⟩
  · have hk' : knownX client = true := by subst hA hF; simpa [A0, FsR0] using hk
    obtain ⟨ew, k0, k1, o, eo, ho, g0, g1, g2, g3, g4, g5, gt, gl⟩ := own_at hos hcs hop hk'
    refine ⟨by subst hA; rfl, by subst hA; simp only [A0, ew]; exact ⟨k0, k1⟩, by subst hA; rfl, by subst hA; simp only [A0, ew, Nat.zero_add, g0, g1, g2, g3, g4, g5, gt]; exact ⟨rfl, gl, rfl⟩, ?_⟩
    refine part (fun h1 => ?_) (fun h1 => ?_) <;> try cbv
    · subst hA hX hW hF
      simp only [A0, ew, Nat.zero_add, g0] at h1
      refine ret_up ?_ rfl
      rw [lookX, hk', eo, h1]
      exact ⟨_, rfl, UpL.keep (UpL.agg (UpL.keep (UpL.keep (UpL.keep (UpL.keep (UpL.nil UpL.done))))) UpL.done)⟩
    · refine part (fun h2 => ?_) (fun h2 => ?_) <;> try cbv
      · subst hA hX hW hF
        simp only [A0, ew, Nat.zero_add, g0] at h1 h2
        refine ⟨?_, ?_⟩
        · show isP _
          simp only [A0, ew, Nat.zero_add, g5]
          exact ho
        · refine ret_v ?_ rfl
          rw [lookX, hk', eo, h1, h2]
          simp only [A0, ew, Nat.zero_add, g1, g2, g3, g4, g5]
          rfl
      · subst hA hX hW hF
        simp only [A0, ew, Nat.zero_add, g0] at h1 h2
        refine ret_up ?_ rfl
        rw [lookX, hk', eo, h1, h2]
        exact ⟨_, rfl, UpL.keep (UpL.agg (UpL.keep (UpL.keep (UpL.keep (UpL.keep (UpL.nil UpL.done))))) UpL.done)⟩
set_option maxRecDepth 100000 in
theorem v_note (cs : List DV) (client : Int) (seq : Int) (r : Reply) (hp0 : isOwn cs) (hp1 : FsR0.isP r.pairs) : FnV Try.prog 8 [.agg cs, intD client, intD seq, Reply.D r] (.agg ((noteX cs client seq r))) := by
  obtain ⟨r_why, r_found, r_value, r_version, r_pairs⟩ := r
  obtain ⟨os, hos, hcs, hop⟩ := hp0
  have hds := noteX_D hos hcs client seq ⟨r_why, r_found, r_value, r_version, r_pairs⟩
  have hos' : (noteOs os client seq ⟨r_why, r_found, r_value, r_version, r_pairs⟩).length = 8 := (noteOs_length _ _ _ _).trans hos
  have hop' := noteOs_isP hop (r := ⟨r_why, r_found, r_value, r_version, r_pairs⟩) hp1 client seq
  obtain ⟨os', heo⟩ : ∃ os', os' = noteOs os client seq ⟨r_why, r_found, r_value, r_version, r_pairs⟩ := ⟨_, rfl⟩
  obtain ⟨ds, hde⟩ : ∃ ds, ds = noteX cs client seq ⟨r_why, r_found, r_value, r_version, r_pairs⟩ := ⟨_, rfl⟩
  rw [← heo] at hds hos' hop'
  rw [← hde] at hds
  obtain ⟨F, hF⟩ : ∃ F, F = FsR0 := ⟨_, rfl⟩
  have hH : SoundK Try.prog [kn_known F, kn_copied F] := by subst hF; exact orK_ok ok_known (orK_ok ok_copied noK_ok)
  refine FnD_cbv (T := fun _ => tabY [0, 4, 17, 23, 24, 27, 28] []) (H := fun _ => [kn_known F, kn_copied F]) (tabY_ok _ _) hH follows_mixed Try.func8 rfl Try.ntmps8 (by simp) fun A X W hA hX hW => ?_
  cbv
  refine And.intro (by subst hA; show cs.length ≤ 1000000; rw [hcs, own_length]; omega) ?_
  refine part (fun hk => ?_) (fun hk => ?_) <;> cbv
  · have hk' : knownX client = true := by subst hA hF; simpa [A0, FsR0] using hk
    obtain ⟨ew, k0, k1, o, eo, ho, g0, g1, g2, g3, g4, g5, gt, gl⟩ := own_at hos hcs hop hk'
    have e : A.spl cs (A.off 0 (A.bin .sub .i64 client 1) 6) [.d (.sc (.int .i64 seq)), .d (.sc (.int .i64 r_why)), .d (.sc (.bool r_found)), .d (.sc (.string r_value)), .d (.sc (.int .i64 r_version)), .d (.slc 3 r_pairs)] = ds := by
      subst hA
      rw [hde, noteX, hk']
      simp only [A0, ew, Nat.zero_add]
      rfl
    refine ⟨by subst hA; rfl, by subst hA; simp only [A0, ew]; exact ⟨k0, k1⟩, by subst hA; rfl, by subst hA; simp only [A0, ew, Nat.zero_add]; exact gl, ?_⟩
    refine loopL (T := fun _ => tabY [0, 4, 17, 23, 24, 27, 28] []) (H := fun _ => [kn_known F, kn_copied F]) (tabY_ok _ _) hH follows_mixed hA hX (fun i : Int => 0 ≤ i ∧ i ≤ 8)
      (fun i => [(4, .ref 0 0 0), (8, .ref 2 0 0), (18, .d (.sc (.int .i64 i)))]) (fun _ => [⟨28, ds, false, 0, true⟩, ⟨25, [.d (.sc (.int .i64 r_why)), .d (.sc (.bool r_found)), .d (.sc (.string r_value)), .d (.sc (.int .i64 r_version)), .d (.slc 3 r_pairs)], false, 0, true⟩, ⟨28, [.d (.sc (.int .i64 0)), .d (.sc (.int .i64 0)), .d (.sc (.bool false)), .d (.sc (.string none8)), .d (.sc (.int .i64 0)), .d (.sc (.slice none 0 0)), .d (.sc (.int .i64 0)), .d (.sc (.int .i64 0)), .d (.sc (.bool false)), .d (.sc (.string none8)), .d (.sc (.int .i64 0)), .d (.sc (.slice none 0 0)), .d (.sc (.int .i64 0)), .d (.sc (.int .i64 0)), .d (.sc (.bool false)), .d (.sc (.string none8)), .d (.sc (.int .i64 0)), .d (.sc (.slice none 0 0)), .d (.sc (.int .i64 0)), .d (.sc (.int .i64 0)), .d (.sc (.bool false)), .d (.sc (.string none8)), .d (.sc (.int .i64 0)), .d (.sc (.slice none 0 0)), .d (.sc (.int .i64 0)), .d (.sc (.int .i64 0)), .d (.sc (.bool false)), .d (.sc (.string none8)), .d (.sc (.int .i64 0)), .d (.sc (.slice none 0 0)), .d (.sc (.int .i64 0)), .d (.sc (.int .i64 0)), .d (.sc (.bool false)), .d (.sc (.string none8)), .d (.sc (.int .i64 0)), .d (.sc (.slice none 0 0)), .d (.sc (.int .i64 0)), .d (.sc (.int .i64 0)), .d (.sc (.bool false)), .d (.sc (.string none8)), .d (.sc (.int .i64 0)), .d (.sc (.slice none 0 0)), .d (.sc (.int .i64 0)), .d (.sc (.int .i64 0)), .d (.sc (.bool false)), .d (.sc (.string none8)), .d (.sc (.int .i64 0)), .d (.sc (.slice none 0 0))], false, 0, true⟩])
      (fun i => 8 - i.toNat) 0 ?_ ?_ ?_
    · exact ⟨by omega, by omega⟩
    · exact told_eq (congrArg (fun z => [(⟨28, z, false, 0, true⟩ : Box), ⟨25, [.d (.sc (.int .i64 r_why)), .d (.sc (.bool r_found)), .d (.sc (.string r_value)), .d (.sc (.int .i64 r_version)), .d (.slc 3 r_pairs)], false, 0, true⟩, ⟨28, [.d (.sc (.int .i64 0)), .d (.sc (.int .i64 0)), .d (.sc (.bool false)), .d (.sc (.string none8)), .d (.sc (.int .i64 0)), .d (.sc (.slice none 0 0)), .d (.sc (.int .i64 0)), .d (.sc (.int .i64 0)), .d (.sc (.bool false)), .d (.sc (.string none8)), .d (.sc (.int .i64 0)), .d (.sc (.slice none 0 0)), .d (.sc (.int .i64 0)), .d (.sc (.int .i64 0)), .d (.sc (.bool false)), .d (.sc (.string none8)), .d (.sc (.int .i64 0)), .d (.sc (.slice none 0 0)), .d (.sc (.int .i64 0)), .d (.sc (.int .i64 0)), .d (.sc (.bool false)), .d (.sc (.string none8)), .d (.sc (.int .i64 0)), .d (.sc (.slice none 0 0)), .d (.sc (.int .i64 0)), .d (.sc (.int .i64 0)), .d (.sc (.bool false)), .d (.sc (.string none8)), .d (.sc (.int .i64 0)), .d (.sc (.slice none 0 0)), .d (.sc (.int .i64 0)), .d (.sc (.int .i64 0)), .d (.sc (.bool false)), .d (.sc (.string none8)), .d (.sc (.int .i64 0)), .d (.sc (.slice none 0 0)), .d (.sc (.int .i64 0)), .d (.sc (.int .i64 0)), .d (.sc (.bool false)), .d (.sc (.string none8)), .d (.sc (.int .i64 0)), .d (.sc (.slice none 0 0)), .d (.sc (.int .i64 0)), .d (.sc (.int .i64 0)), .d (.sc (.bool false)), .d (.sc (.string none8)), .d (.sc (.int .i64 0)), .d (.sc (.slice none 0 0))], false, 0, true⟩]) e) (by simp [toldP, getS])
    rintro R i hR ⟨i0, i1⟩
    cbv
    refine part (fun h2 => ?_) (fun h2 => ?_) <;> cbv
    · replace i0 : 0 ≤ i := i0
      replace hos' : os'.length = 8 := hos'
      have hi : i < 8 := by
        subst hA
        simp only [A0, decide_eq_true_eq] at h2
        exact h2
      have hin : i.toNat < os'.length := by omega
      obtain ⟨g0, g1, g2, g3, g4, g5, gt, gl⟩ := own_cell hds i.toNat hin
      have gt1 := own_tail hds i.toNat hin
      have ho := hop' _ (List.getElem_mem hin)
      generalize os'[i.toNat]'hin = o at g0 g1 g2 g3 g4 g5 gt gt1 ho
      have q2 : ds[i.toNat * 6 + 1 + 1]? = some (.d (.sc (.bool o.reply.found))) := g2
      have q3 : ds[i.toNat * 6 + 1 + 2]? = some (.d (.sc (.string o.reply.value))) := g3
      have q4 : ds[i.toNat * 6 + 1 + 3]? = some (.d (.sc (.int .i64 o.reply.version))) := g4
      have q5 : ds[i.toNat * 6 + 1 + 4]? = some (.d (.slc 3 o.reply.pairs)) := g5
      subst hA hX hW hR hF
      refine ⟨rfl, ⟨i0, hi⟩, rfl, rfl, ?_, ?_, rfl, ⟨i0, hi⟩, rfl, rfl, ?_, ?_⟩
      · simp only [A0, Nat.zero_add, g1, q2, q3, q4, q5, gt1]
        exact ⟨rfl, by omega, trivial⟩
      · show isP _
        simp only [A0, Nat.zero_add, q5]
        exact ho
      · simp only [A0, Nat.zero_add]
        omega
      · have hw : IntKind.wrap .i64 (i + 1) = i + 1 := wrap_i64 (by unfold r64; omega)
        have e2 : splice ds (i.toNat * 6 + 1) [.d (.sc (.int .i64 o.reply.why)), .d (.sc (.bool o.reply.found)), .d (.sc (.string o.reply.value)), .d (.sc (.int .i64 o.reply.version)), .d (.slc 3 o.reply.pairs)] = ds := splice_same gt1 rfl
        refine ⟨i + 1, ⟨by omega, by omega⟩, by omega, ?_⟩
        simp only [A0, FsR0, idR, Nat.zero_add, g1, q2, q3, q4, q5, e2, hw]
        exact told_less (by simp [toldP, getS])
    · obtain ⟨o0, o1, o2, o3, o4, o5, o6, o7, e8⟩ := list8 hos'
      clear hop' heo
      replace hde : ds = noteX cs client seq ⟨r_why, r_found, r_value, r_version, r_pairs⟩ := hde
      subst hA hX hW hR hF
      rw [← hde]
      clear hde
      subst e8
      subst hds
      exact ⟨rfl, ⟨rfl, Nat.le_refl _, rfl⟩, ret_v rfl rfl⟩
  · have hk' : knownX client = false := by subst hA hF; simpa [A0, FsR0] using hk
    have e : cs = ds := by
      rw [hde, noteX, hk']
      rfl
    refine loopL (T := fun _ => tabY [0, 4, 17, 23, 24, 27, 28] []) (H := fun _ => [kn_known F, kn_copied F]) (tabY_ok _ _) hH follows_mixed hA hX (fun i : Int => 0 ≤ i ∧ i ≤ 8)
      (fun i => [(4, .ref 0 0 0), (8, .ref 2 0 0), (18, .d (.sc (.int .i64 i)))]) (fun _ => [⟨28, ds, false, 0, true⟩, ⟨25, [.d (.sc (.int .i64 r_why)), .d (.sc (.bool r_found)), .d (.sc (.string r_value)), .d (.sc (.int .i64 r_version)), .d (.slc 3 r_pairs)], false, 0, true⟩, ⟨28, [.d (.sc (.int .i64 0)), .d (.sc (.int .i64 0)), .d (.sc (.bool false)), .d (.sc (.string none8)), .d (.sc (.int .i64 0)), .d (.sc (.slice none 0 0)), .d (.sc (.int .i64 0)), .d (.sc (.int .i64 0)), .d (.sc (.bool false)), .d (.sc (.string none8)), .d (.sc (.int .i64 0)), .d (.sc (.slice none 0 0)), .d (.sc (.int .i64 0)), .d (.sc (.int .i64 0)), .d (.sc (.bool false)), .d (.sc (.string none8)), .d (.sc (.int .i64 0)), .d (.sc (.slice none 0 0)), .d (.sc (.int .i64 0)), .d (.sc (.int .i64 0)), .d (.sc (.bool false)), .d (.sc (.string none8)), .d (.sc (.int .i64 0)), .d (.sc (.slice none 0 0)), .d (.sc (.int .i64 0)), .d (.sc (.int .i64 0)), .d (.sc (.bool false)), .d (.sc (.string none8)), .d (.sc (.int .i64 0)), .d (.sc (.slice none 0 0)), .d (.sc (.int .i64 0)), .d (.sc (.int .i64 0)), .d (.sc (.bool false)), .d (.sc (.string none8)), .d (.sc (.int .i64 0)), .d (.sc (.slice none 0 0)), .d (.sc (.int .i64 0)), .d (.sc (.int .i64 0)), .d (.sc (.bool false)), .d (.sc (.string none8)), .d (.sc (.int .i64 0)), .d (.sc (.slice none 0 0)), .d (.sc (.int .i64 0)), .d (.sc (.int .i64 0)), .d (.sc (.bool false)), .d (.sc (.string none8)), .d (.sc (.int .i64 0)), .d (.sc (.slice none 0 0))], false, 0, true⟩])
      (fun i => 8 - i.toNat) 0 ?_ ?_ ?_
    · exact ⟨by omega, by omega⟩
    · exact told_eq (congrArg (fun z => [(⟨28, z, false, 0, true⟩ : Box), ⟨25, [.d (.sc (.int .i64 r_why)), .d (.sc (.bool r_found)), .d (.sc (.string r_value)), .d (.sc (.int .i64 r_version)), .d (.slc 3 r_pairs)], false, 0, true⟩, ⟨28, [.d (.sc (.int .i64 0)), .d (.sc (.int .i64 0)), .d (.sc (.bool false)), .d (.sc (.string none8)), .d (.sc (.int .i64 0)), .d (.sc (.slice none 0 0)), .d (.sc (.int .i64 0)), .d (.sc (.int .i64 0)), .d (.sc (.bool false)), .d (.sc (.string none8)), .d (.sc (.int .i64 0)), .d (.sc (.slice none 0 0)), .d (.sc (.int .i64 0)), .d (.sc (.int .i64 0)), .d (.sc (.bool false)), .d (.sc (.string none8)), .d (.sc (.int .i64 0)), .d (.sc (.slice none 0 0)), .d (.sc (.int .i64 0)), .d (.sc (.int .i64 0)), .d (.sc (.bool false)), .d (.sc (.string none8)), .d (.sc (.int .i64 0)), .d (.sc (.slice none 0 0)), .d (.sc (.int .i64 0)), .d (.sc (.int .i64 0)), .d (.sc (.bool false)), .d (.sc (.string none8)), .d (.sc (.int .i64 0)), .d (.sc (.slice none 0 0)), .d (.sc (.int .i64 0)), .d (.sc (.int .i64 0)), .d (.sc (.bool false)), .d (.sc (.string none8)), .d (.sc (.int .i64 0)), .d (.sc (.slice none 0 0)), .d (.sc (.int .i64 0)), .d (.sc (.int .i64 0)), .d (.sc (.bool false)), .d (.sc (.string none8)), .d (.sc (.int .i64 0)), .d (.sc (.slice none 0 0)), .d (.sc (.int .i64 0)), .d (.sc (.int .i64 0)), .d (.sc (.bool false)), .d (.sc (.string none8)), .d (.sc (.int .i64 0)), .d (.sc (.slice none 0 0))], false, 0, true⟩]) e) (by simp [toldP, getS])
    rintro R i hR ⟨i0, i1⟩
    cbv
    refine part (fun h2 => ?_) (fun h2 => ?_) <;> cbv
    · replace i0 : 0 ≤ i := i0
      replace hos' : os'.length = 8 := hos'
      have hi : i < 8 := by
        subst hA
        simp only [A0, decide_eq_true_eq] at h2
        exact h2
      have hin : i.toNat < os'.length := by omega
      obtain ⟨g0, g1, g2, g3, g4, g5, gt, gl⟩ := own_cell hds i.toNat hin
      have gt1 := own_tail hds i.toNat hin
      have ho := hop' _ (List.getElem_mem hin)
      generalize os'[i.toNat]'hin = o at g0 g1 g2 g3 g4 g5 gt gt1 ho
      have q2 : ds[i.toNat * 6 + 1 + 1]? = some (.d (.sc (.bool o.reply.found))) := g2
      have q3 : ds[i.toNat * 6 + 1 + 2]? = some (.d (.sc (.string o.reply.value))) := g3
      have q4 : ds[i.toNat * 6 + 1 + 3]? = some (.d (.sc (.int .i64 o.reply.version))) := g4
      have q5 : ds[i.toNat * 6 + 1 + 4]? = some (.d (.slc 3 o.reply.pairs)) := g5
      subst hA hX hW hR hF
      refine ⟨rfl, ⟨i0, hi⟩, rfl, rfl, ?_, ?_, rfl, ⟨i0, hi⟩, rfl, rfl, ?_, ?_⟩
      · simp only [A0, Nat.zero_add, g1, q2, q3, q4, q5, gt1]
        exact ⟨rfl, by omega, trivial⟩
      · show isP _
        simp only [A0, Nat.zero_add, q5]
        exact ho
      · simp only [A0, Nat.zero_add]
        omega
      · have hw : IntKind.wrap .i64 (i + 1) = i + 1 := wrap_i64 (by unfold r64; omega)
        have e2 : splice ds (i.toNat * 6 + 1) [.d (.sc (.int .i64 o.reply.why)), .d (.sc (.bool o.reply.found)), .d (.sc (.string o.reply.value)), .d (.sc (.int .i64 o.reply.version)), .d (.slc 3 o.reply.pairs)] = ds := splice_same gt1 rfl
        refine ⟨i + 1, ⟨by omega, by omega⟩, by omega, ?_⟩
        simp only [A0, FsR0, idR, Nat.zero_add, g1, q2, q3, q4, q5, e2, hw]
        exact told_less (by simp [toldP, getS])
    · obtain ⟨o0, o1, o2, o3, o4, o5, o6, o7, e8⟩ := list8 hos'
      clear hop' heo
      replace hde : ds = noteX cs client seq ⟨r_why, r_found, r_value, r_version, r_pairs⟩ := hde
      subst hA hX hW hR hF
      rw [← hde]
      clear hde
      subst e8
      subst hds
      exact ⟨rfl, ⟨rfl, Nat.le_refl _, rfl⟩, ret_v rfl rfl⟩
set_option maxRecDepth 100000 in
theorem v_rightO (cs : List DV) (hp0 : isOwn cs) : FnV Try.prog 16 [.agg cs] (boolD ((rightO cs))) := by
  obtain ⟨os, hos, hcs, hop⟩ := hp0
  have hof := ownersOf_D hos hcs
  obtain ⟨F, hF⟩ : ∃ F, F = FsR0 := ⟨_, rfl⟩
  have hH : SoundK Try.prog [kn_rrep F, kn_zero F] := by subst hF; exact orK_ok ok_rrep (orK_ok ok_zero noK_ok)
  refine FnD_cbv (T := fun _ => tabY [0, 1] []) (H := fun _ => [kn_rrep F, kn_zero F]) (tabY_ok _ _) hH follows_mixed Try.func16 rfl Try.ntmps16 (by simp) fun A X W hA hX hW => ?_
  cbv
  refine ⟨by subst hA; show cs.length ≤ 1000000; rw [hcs, own_length]; omega, by subst hA; rfl, ?_, ?_⟩
  · clear hop hof
    subst hA
    obtain ⟨o0, o1, o2, o3, o4, o5, o6, o7, e8⟩ := list8 hos
    subst e8
    subst hcs
    exact ⟨rfl, Nat.le_refl _, rfl⟩
  refine loopL (T := fun _ => tabY [0, 1] []) (H := fun _ => [kn_rrep F, kn_zero F]) (tabY_ok _ _) hH follows_mixed hA hX (fun i : Int => 0 ≤ i ∧ i ≤ 8 ∧ rightOs os = rightOs (os.drop i.toNat))
    (fun i => [(5, .agg cs), (6, .d (.sc (.int .i64 i)))]) (fun _ => [⟨28, cs, false, 0, true⟩])
    (fun i => 8 - i.toNat) 0 ?_ ?_ ?_
  · exact ⟨by omega, by omega, rfl⟩
  · clear hop hof
    subst hA
    obtain ⟨o0, o1, o2, o3, o4, o5, o6, o7, e8⟩ := list8 hos
    subst e8
    subst hcs
    exact told_less ⟨.inl rfl, .inl rfl, trivial⟩
  rintro R i hR ⟨i0, i1, i2⟩
  cbv
  refine part (fun h2 => ?_) (fun h2 => ?_) <;> cbv
  · replace i0 : 0 ≤ i := i0
    replace hos : os.length = 8 := hos
    have hi : i < 8 := by
      subst hA
      simp only [A0, decide_eq_true_eq] at h2
      exact h2
    have hin : i.toNat < os.length := by omega
    obtain ⟨g0, g1, g2, g3, g4, g5, gt, gl⟩ := own_cell hcs i.toNat hin
    have ho := hop _ (List.getElem_mem hin)
    have hd := odrop i0 hin
    generalize os[i.toNat]'hin = o at g0 g1 g2 g3 g4 g5 gt ho hd
    rw [hd] at i2
    have i3 : rightOs (o :: os.drop (i + 1).toNat) = (okO o && rightOs (os.drop (i + 1).toNat)) := rfl
    rw [i3] at i2
    repeat' first
      | (refine part (fun h3 => ?_) (fun h3 => ?_) <;> try cbv)
      | (refine And.intro ?_ ?_)
    all_goals subst hA hX hW hR hF
    all_goals first
      | rfl
      | exact ⟨i0, hi⟩
      | (simp only [A0, Nat.zero_add, g0, g1, g2, g3, g4, g5, gt]; exact ⟨rfl, gl, rfl⟩)
      | (intro _; trivial)
      | (intro hq; exact hq)
      | (intro hq; simpa [A0] using hq)
      | (intro _; show isP _; simp only [A0, Nat.zero_add, g5]; exact ho)
      | skip
    · simp only [A0, FsR0, Nat.zero_add, g0, g1, g2, g3, g4, g5] at h3
      have hk : okO o = false := (okO_eq o).trans (congrArg Bool.not h3)
      rw [hk] at i2
      refine ret_v ?_ rfl
      rw [rightO, hof, i2]
      rfl
    · simp only [A0, FsR0, Nat.zero_add, g0, g1, g2, g3, g4, g5] at h3
      have hk : okO o = true := (okO_eq o).trans (congrArg Bool.not h3)
      rw [hk, Bool.true_and] at i2
      have hw : IntKind.wrap .i64 (i + 1) = i + 1 := wrap_i64 (by unfold r64; omega)
      refine ⟨i + 1, ⟨by omega, by omega, i2⟩, by omega, told_keep [0] rfl (by simp [keepSt, pullBox, own_pull [0] hcs, own_pullL [0] hcs]) ?_⟩
      simp [toldP, getS, A0, hw, pullD, own_pullL [0] hcs]
  · replace i1 : i ≤ 8 := i1
    replace hos : os.length = 8 := hos
    subst hA hX hW hR hF
    simp only [A0, decide_eq_false_iff_not] at h2
    replace h2 : ¬ i < 8 := h2
    refine ret_v ?_ rfl
    have hil : i.toNat = os.length := by omega
    rw [hil, List.drop_length] at i2
    rw [rightO, hof, i2]
    rfl
set_option maxRecDepth 100000 in
theorem v_state (xs : List (List PD)) (cs : List DV) (hp0 : isP xs) (hp1 : isOwn cs) : FnV Try.prog 15 [.agg (.d (.slc 3 xs) :: cs)] (boolD (stateX xs cs)) := by
  obtain ⟨os, hos, hcs, hop⟩ := hp1
  have hof := ownersOf_D hos hcs
  obtain ⟨F, hF⟩ : ∃ F, F = FsR0 := ⟨_, rfl⟩
  obtain ⟨GFsK, hGFsK⟩ : ∃ F, F = FsK0 := ⟨_, rfl⟩
  have hH : SoundK Try.prog [kn_rrepR F, kn_replies F, kn_rightR GFsK] := by subst hF hGFsK; exact orK_ok ok_rrepR (orK_ok ok_replies (orK_ok ok_rightR noK_ok))
  refine FnD_cbv (T := fun _ => tabY [0, 11] []) (H := fun _ => [kn_rrepR F, kn_replies F, kn_rightR GFsK]) (tabY_ok _ _) hH follows_mixed Try.func15 rfl Try.ntmps15 (by simp) fun A X W hA hX hW => ?_
  cbv
  refine And.intro (by subst hA; show (_ :: cs).length ≤ 1000000; rw [List.length_cons, hcs, own_length]; omega) ?_
  refine loopL (T := fun _ => tabY [0, 11] []) (H := fun _ => [kn_rrepR F, kn_replies F, kn_rightR GFsK]) (tabY_ok _ _) hH follows_mixed hA hX (fun i : Int => 0 ≤ i ∧ i ≤ 8 ∧ rightOs os = rightOs (os.drop i.toNat))
    (fun i => [(1, .ref 0 0 0), (3, .d (.sc (.int .i64 i)))]) (fun _ => [⟨44, .d (.slc 3 xs) :: cs, false, 0, true⟩])
    (fun i => 8 - i.toNat) 0 ?_ ?_ ?_
  · exact ⟨by omega, by omega, rfl⟩
  · exact told_less ⟨.inl rfl, .inl rfl, trivial⟩
  rintro R i hR ⟨i0, i1, i2⟩
  cbv
  refine part (fun h2 => ?_) (fun h2 => ?_) <;> cbv
  · replace i0 : 0 ≤ i := i0
    replace hos : os.length = 8 := hos
    have hi : i < 8 := by
      subst hA
      simp only [A0, decide_eq_true_eq] at h2
      exact h2
    have hin : i.toNat < os.length := by omega
    obtain ⟨g0, g1, g2, g3, g4, g5, gt, gl⟩ := own_cell hcs i.toNat hin
    have ho := hop _ (List.getElem_mem hin)
    have hd := odrop i0 hin
    generalize os[i.toNat]'hin = o at g0 g1 g2 g3 g4 g5 gt ho hd
    rw [hd] at i2
    have i3 : rightOs (o :: os.drop (i + 1).toNat) = (okO o && rightOs (os.drop (i + 1).toNat)) := rfl
    rw [i3] at i2
    have q : ∀ j, (DV.d (.slc 3 xs) :: cs)[1 + i.toNat * 6 + j]? = cs[i.toNat * 6 + j]? := fun j => by
      rw [show 1 + i.toNat * 6 + j = (i.toNat * 6 + j) + 1 by omega, List.getElem?_cons_succ]
    have q0 : (DV.d (.slc 3 xs) :: cs)[1 + i.toNat * 6]? = _ := (q 0).trans g0
    have q1 := (q 1).trans g1
    have q2 := (q 2).trans g2
    have q3 := (q 3).trans g3
    have q4 := (q 4).trans g4
    have q5 := (q 5).trans g5
    have qt : ((DV.d (.slc 3 xs) :: cs).drop (1 + i.toNat * 6)).take 6 = o.cells := by rw [Nat.add_comm 1, List.drop_succ_cons]; exact gt
    clear g0 g1 g2 g3 g4 g5 gt q
    repeat' first
      | (refine part (fun h3 => ?_) (fun h3 => ?_) <;> try cbv)
      | (refine And.intro ?_ ?_)
    all_goals subst hA hX hW hR hGFsK hF
    all_goals first
      | (show Region.lexB _ _ = true; kernel_rfl)
      | rfl
      | exact ⟨i0, hi⟩
      | (simp only [A0, q0, q1, q2, q3, q4, q5, qt]; exact ⟨rfl, by rw [List.length_cons]; omega, rfl⟩)
      | (intro _; trivial)
      | (intro hq; exact hq)
      | (intro hq; simpa [A0] using hq)
      | (intro _; show isP _; simp only [A0, q5]; exact ho)
      | (intro _; exact isP.nil)
      | skip
    · simp only [A0, FsR0, q0, q1, q2, q3, q4, q5] at h3
      have hk : okO o = false := by
        rw [okO_eq, ← replies_zero]
        exact congrArg Bool.not h3
      rw [hk] at i2
      refine ret_v ?_ rfl
      rw [stateX, hof, i2]
      rfl
    · simp only [A0, FsR0, q0, q1, q2, q3, q4, q5] at h3
      have hk : okO o = true := by
        rw [okO_eq, ← replies_zero]
        exact congrArg Bool.not h3
      rw [hk, Bool.true_and] at i2
      have hw : IntKind.wrap .i64 (i + 1) = i + 1 := wrap_i64 (by unfold r64; omega)
      refine ⟨i + 1, ⟨by omega, by omega, i2⟩, by omega, told_keep [0] rfl (by simp [keepSt, pullBox, pullL, pullD, own_pull [0] hcs, own_pullL [0] hcs]) ?_⟩
      simp [toldP, getS, A0, hw, pullD, own_pullL [0] hcs]
  · replace i1 : i ≤ 8 := i1
    replace hos : os.length = 8 := hos
    subst hA hX hW hR hGFsK hF
    simp only [A0, decide_eq_false_iff_not] at h2
    replace h2 : ¬ i < 8 := h2
    refine ⟨hp0, ret_v ?_ rfl⟩
    have hil : i.toNat = os.length := by omega
    rw [hil, List.drop_length] at i2
    rw [stateX, hof, i2]
    rfl
def kn_state (F : FsR) : FuncId × (List DV → RV) := (15, fun args => match args with
  | [.agg (.d (.sc (.slice none 0 0)) :: cs)] => some ([F.isOwn cs], boolD (F.state [] cs))
  | [.agg (.d (.slc 3 xs) :: cs)] => some ([F.isP xs, F.isOwn cs], boolD (F.state xs cs))
  | _ => none)
theorem ok_state (args : List DV) (cs : List Prop) (r : DV) (h : (kn_state FsR0).2 args = some (cs, r)) (hc : allP cs True) : FnV Try.prog 15 args r ∧ closedL 0 args = true := by
  unfold kn_state at h
  simp only at h
  split at h
  · cases h
    have h9 := isOwnU.closed hc.1
    exact ⟨FnP.ups (v_state [] _ isP.nil hc.1) (UpL.agg (UpL.nil (upL_upCs _)) UpL.done), clo1 h9 rfl⟩
  · cases h
    have h9 := isOwnU.closed hc.2.1
    exact ⟨FnP.ups (v_state _ _ hc.1 hc.2.1) (UpL.agg (UpL.keep (upL_upCs _)) UpL.done), clo1 h9 rfl⟩
  · cases h
theorem v_lookU (cs : List DV) (client seq : Int) (h : isOwnU cs) : FnV Try.prog 13 [.agg cs, intD client, intD seq] (.tup [intD (lookU cs client seq).1, Reply.D (lookU cs client seq).2]) := FnP.ups (v_look _ client seq h) (UpL.agg (upL_upCs cs) (UpL.refl' _))
theorem v_noteU (cs : List DV) (client seq : Int) (r : Reply) (h : isOwnU cs) (hr : isP r.pairs) : FnV Try.prog 8 [.agg cs, intD client, intD seq, Reply.D r] (.agg (noteU cs client seq r)) := FnP.ups (v_note _ client seq r h hr) (UpL.agg (upL_upCs cs) (UpL.refl' _))
theorem v_rightU (cs : List DV) (h : isOwnU cs) : FnV Try.prog 16 [.agg cs] (boolD (rightU cs)) := FnP.ups (v_rightO _ h) (UpL.agg (upL_upCs cs) UpL.done)

end Go.Proofs.Ytjlbdfehkbcmfaa
