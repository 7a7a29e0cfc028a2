/- The attribute that stands there most often. No condition. -/
import Derived.Test.YtikodmddomaneaaDp3
namespace Go.Proofs.Ytikodmddomaneaa
open Go.RowKit Go.Maps
set_option linter.all false
set_option maxHeartbeats 4000000
section
variable {P : Program} {T : Unit → Tab} (hT : TabOk P (T ())) {N : Nat} {B : Env} (hB : B.σ.length = B.st.length) {kt : TypeId} {Q : Exit → SL → Store → MS → Prop} {s : SL} {st : Store} {Y : Code → (Exit → SL → Store → MS → Prop) → SL → Store → MS → Prop} (hY : Y = wpG P N B kt)
include hB hY
theorem makeY {id d1 d2 : Nat} {mt t1 t2 : TypeId} {p1 p2 : String} {a1 a2 : Array Edge} {y : MS} (hd : d1 < N ∧ d2 < N) (h : ∀ g, Q .normal (setS (setS s d1 (.d (.sc (.map (some g))))) d2 (.d (.sc (.map (some g))))) st (some (g, fun _ => 0))) :
    Y (.region id ⟨[{ dst := some d1, op := .makeMap mt none, type := t1, pos := p1, after := a1, guard := none }, { dst := some d2, op := .assign (.tmp d1), type := t2, pos := p2, after := a2, guard := none }]⟩ false) Q s st y := by
  subst hY
  exact wpG_make hB hd h
include hT
theorem regYr {mt et : TypeId} (hK : Keyed P kt) (hmt : P.underlying mt = some (.map kt et)) (hz : ∃ i, P.info? et = some i ∧ i.zero = some (.int .i64 0)) {g : Nat} (x0 : Value) {A : Ar} (hA : A = A0) {id : Nat} {ops : Array Oper} {F : Value → Int}
    (h : ∀ b0 C, C = G0 P mt kt g x0 b0 → rowGC T A C N ops.toList s st (F, false) fun s' st' y' => Q .normal s' st' (some (g, y'.1))) : Y (.region id ops false) Q s st (some (g, F)) := by
  subst hY
  exact regionGr hT hB hK hmt hz x0 hA h
theorem regYa {mt et : TypeId} (hK : Keyed P kt) (hmt : P.underlying mt = some (.map kt et)) (hz : ∃ i, P.info? et = some i ∧ i.zero = some (.int .i64 0)) {g : Nat} (x0 : Value) {A : Ar} (hA : A = A0) (hm : P.follows .mixedOrders = true) {id : Nat} {ops : Array Oper} {F : Value → Int}
    (h : ∀ b0 C, C = G0 P mt kt g x0 b0 → anyGC T A C N ops (fun s' st' y' => Q .normal s' st' (some (g, y'.1))) ops.size (Array.replicate ops.size false) s st (F, false)) : Y (.region id ops true) Q s st (some (g, F)) := by
  subst hY
  exact regionGa hT hB hK hmt hz x0 hm hA h
end
def Attr.val (a : Attr) : Value := .agg #[.int .i64 a.seq, .int .i64 a.d0, .int .i64 a.d1, .int .i64 a.d2, .int .i64 a.d3, .int .i64 a.d4, .int .i64 a.d5, .int .i64 a.d6]
theorem val_inj {a b : Attr} (h : a.val = b.val) : a = b := by
  simp only [Attr.val, Value.agg.injEq, Array.mk.injEq, List.cons.injEq, Value.int.injEq, true_and, and_true] at h
  obtain ⟨h0, h1, h2, h3, h4, h5, h6, h7⟩ := h
  cases a; cases b
  simp_all
noncomputable def cntF (l : List Attr) : Value → Int := l.foldl (fun F a => putF F a.val (F a.val + 1)) fun _ => 0
theorem cntF_snoc (l : List Attr) (a : Attr) : cntF (l ++ [a]) = putF (cntF l) a.val (cntF l a.val + 1) := by simp [cntF]
theorem cntF_count (l : List Attr) (b : Attr) : cntF l b.val = (l.count b : Int) := by
  rcases List.eq_nil_or_concat l with rfl | ⟨l', a, h⟩
  · rfl
  · have hlt : l'.length < l.length := by rw [h]; simp
    rw [List.concat_eq_append] at h
    subst h
    rw [cntF_snoc, List.count_append]
    have ih := cntF_count l' b
    unfold putF
    by_cases e : b = a
    · subst e
      simp only [if_true]
      rw [ih]
      simp
    · rw [if_neg (fun h => e (val_inj h)), ih]
      simp [List.count_cons, Ne.symm e, e]
termination_by l.length
def mostS (l : List Attr) (p : Attr × Int) (a : Attr) : Attr × Int := if p.2 < (l.count a : Int) then (a, (l.count a : Int)) else p
def mostL (l : List Attr) : Attr × Int := l.foldl (mostS l) (zeroA, 0)
def mostX (xs : List (List PD)) : Attr × Int := mostL (attrsOf xs)
theorem keyA : Keyed Try.prog 25 := Keyed.of_law (deep_law_laid (m := 4) (by kernel_rfl) (by decide) (of_decide_eq_true (by kernel_rfl)) (by kernel_rfl) (by kernel_rfl))
theorem uA : Try.prog.underlying 25 = some (.struct #[{ name := "Seq", type := 3, offset := 0, embedded := false, tag := "", pkgPath := "", byteOffset := 0 }, { name := "Deps", type := 23, offset := 1, embedded := false, tag := "", pkgPath := "", byteOffset := 8 }]) := by kernel_rfl
theorem uD : Try.prog.underlying 23 = some (.array 7 3) := by kernel_rfl
theorem uI : Try.prog.underlying 3 = some (.int .i64) := by kernel_rfl
theorem cI : Try.prog.cellsOf 3 = 1 := by kernel_rfl
theorem cD : Try.prog.cellsOf 23 = 7 := by kernel_rfl
theorem cA : Try.prog.cellsOf 25 = 8 := by kernel_rfl
theorem kA : Try.prog.keyType 25 = true := by kernel_rfl
theorem sA : ∃ n, Try.prog.types.size + 1 = n + 3 := ⟨Try.prog.types.size - 2, by
  have : (decide (2 ≤ Try.prog.types.size)) = true := by kernel_rfl
  have := of_decide_eq_true this
  omega⟩
theorem kl1 {n : Int} (h : r64 n) (d : Nat) : Try.prog.keyLits (d + 1) 3 [.int .i64 n] = some [.int .i64 n] := by
  have hw : (Lit.int .i64 n).wf = true := by
    simp only [Lit.wf, Bool.and_eq_true, decide_eq_true_eq]
    exact h
  unfold Program.keyLits
  simp only [uI, hw, and_self, if_true]
theorem klD {d0 d1 d2 d3 d4 d5 d6 : Int} (h0 : r64 d0) (h1 : r64 d1) (h2 : r64 d2) (h3 : r64 d3) (h4 : r64 d4) (h5 : r64 d5) (h6 : r64 d6) (d : Nat) :
    Try.prog.keyLits (d + 1 + 1) 23 [.int .i64 d0, .int .i64 d1, .int .i64 d2, .int .i64 d3, .int .i64 d4, .int .i64 d5, .int .i64 d6] = some [.int .i64 d0, .int .i64 d1, .int .i64 d2, .int .i64 d3, .int .i64 d4, .int .i64 d5, .int .i64 d6] := by
  unfold Program.keyLits
  simp only [uD, cD, cI]
  simp [List.range_succ, kl1 h0, kl1 h1, kl1 h2, kl1 h3, kl1 h4, kl1 h5, kl1 h6]
theorem klA {s d0 d1 d2 d3 d4 d5 d6 : Int} (hs : r64 s) (h0 : r64 d0) (h1 : r64 d1) (h2 : r64 d2) (h3 : r64 d3) (h4 : r64 d4) (h5 : r64 d5) (h6 : r64 d6) (d : Nat) :
    Try.prog.keyLits (d + 1 + 1 + 1) 25 [.int .i64 s, .int .i64 d0, .int .i64 d1, .int .i64 d2, .int .i64 d3, .int .i64 d4, .int .i64 d5, .int .i64 d6] = some [.int .i64 s, .int .i64 d0, .int .i64 d1, .int .i64 d2, .int .i64 d3, .int .i64 d4, .int .i64 d5, .int .i64 d6] := by
  unfold Program.keyLits
  simp only [uA, cA]
  simp [cI, cD, kl1 hs, klD h0 h1 h2 h3 h4 h5 h6]
theorem key_vals {s d0 d1 d2 d3 d4 d5 d6 : Int} (hs : r64 s) (h0 : r64 d0) (h1 : r64 d1) (h2 : r64 d2) (h3 : r64 d3) (h4 : r64 d4) (h5 : r64 d5) (h6 : r64 d6) :
    ∃ l, keyOf Try.prog 25 (.agg #[.int .i64 s, .int .i64 d0, .int .i64 d1, .int .i64 d2, .int .i64 d3, .int .i64 d4, .int .i64 d5, .int .i64 d6]) = some l := by
  obtain ⟨n, hn⟩ := sA
  unfold keyOf
  simp only [uA, kA, Bool.true_and]
  rw [if_pos (by simp [Value.formed, uA, cA]), hn]
  simp only [Value.cells]
  rw [show n + 3 = n + 1 + 1 + 1 from rfl, klA hs h0 h1 h2 h3 h4 h5 h6]
  exact ⟨_, rfl⟩
theorem key_val {a : Attr} (h : rAttr a) : ∃ l, keyOf Try.prog 25 a.val = some l := key_vals h.1 h.2.1 h.2.2.1 h.2.2.2.1 h.2.2.2.2.1 h.2.2.2.2.2.1 h.2.2.2.2.2.2.1 h.2.2.2.2.2.2.2
theorem mapT : Try.prog.underlying 59 = some (.map 25 3) := by kernel_rfl
theorem zeroT : ∃ i, Try.prog.info? 3 = some i ∧ i.zero = some (.int .i64 0) := by
  have h : (Try.prog.info? 3).bind (·.zero) = some (.int .i64 0) := by kernel_rfl
  cases hi : Try.prog.info? 3 with
  | none => rw [hi] at h; cases h
  | some i => rw [hi] at h; exact ⟨i, rfl, h⟩

set_option maxRecDepth 100000 in
theorem v_most (xs : List (List PD)) (hp0 : isAt xs) : FnV Try.prog 11 [.d (.slc 8 xs)] (.tup [(mostX xs).1.D, intD (mostX xs).2]) := by
  obtain ⟨l, hxs, hl, hr⟩ := hp0
  have hlen : xs.length = l.length := by rw [hxs]; exact attrsX_length l
  have hof : mostX xs = mostL l := by unfold mostX; rw [hxs, attrsOf_X]
  rw [hof]
  obtain ⟨n, hn⟩ : ∃ n : Int, n = l.length := ⟨_, rfl⟩
  refine FnD_G (T := fun _ => tabY [16,29] [1,5,12,13]) (H := fun _ => []) (tabY_ok _ _) noK_ok follows_mixed 25 Try.func11 rfl Try.ntmps11 (by simp) fun A X W B Y hA hX hW hB hBst hY => ?_
  cbv
  refine makeY (kt := 25) hB hY ⟨by decide, by decide⟩ fun g => ?_
  cbv
  have hB0 : B.st.length = 0 := by rw [hBst]; rfl
  replace hn : n = (l.length : Int) := hn
  replace hlen : xs.length = l.length := hlen
  refine loopG (T := fun _ => tabY [16,29] [1,5,12,13]) (H := fun _ => []) (tabY_ok _ _) noK_ok follows_mixed hB hA hX hY
    (fun x : Int × (Value → Int) => (0 ≤ x.1 ∧ x.1 ≤ n) ∧ x.2 = cntF (l.take x.1.toNat)) (fun x => [(0, .d (.slc 8 xs)), (2, .ref 0 0 0), (4, .d (.sc (.map (some g)))), (12, .d (.slc 8 xs)), (13, .d (.sc (.int .i64 n))), (14, .d (.sc (.int .i64 x.1)))]) (fun _ => [⟨25, [.d (.sc (.int .i64 0)), .d (.sc (.int .i64 0)), .d (.sc (.int .i64 0)), .d (.sc (.int .i64 0)), .d (.sc (.int .i64 0)), .d (.sc (.int .i64 0)), .d (.sc (.int .i64 0)), .d (.sc (.int .i64 0))], false, 0, true⟩])
    (fun x => some (g, x.2)) (fun x => n.toNat - x.1.toNat) (0, fun _ => 0) ⟨⟨Int.le_refl 0, by show 0 ≤ n; omega⟩, rfl⟩ ?_ rfl ?_
  · subst hA
    rw [hB0]
    exact told_less (by simp [toldP, getS, A0, hn, hlen])
  rintro R ⟨i, F⟩ hR ⟨hi, hF⟩
  replace hi : 0 ≤ i ∧ i ≤ n := hi
  replace hF : F = cntF (l.take i.toNat) := hF
  cbv
  replace hn : n = (l.length : Int) := hn
  replace hlen : xs.length = l.length := hlen
  replace hl : l.length ≤ 4194304 := hl
  refine part (fun h => ?_) (fun h => ?_)
  · cbv
    replace hn : n = (l.length : Int) := hn
    replace hi : 0 ≤ i ∧ i ≤ n := hi
    replace hl : l.length ≤ 4194304 := hl
    have hlt : i < (l.length : Int) := by
      subst hA
      simp only [A0, nc, decide_eq_true_eq] at h
      omega
    have hrow := arow hxs hi.1 hlt
    have hst : cntF (l.take (i.toNat + 1)) = putF (cntF (l.take i.toNat)) (l[i.toNat]'(by omega)).val (cntF (l.take i.toNat) (l[i.toNat]'(by omega)).val + 1) := by
      rw [List.take_succ_eq_append_getElem (by omega), cntF_snoc]
    have hra : rAttr (l[i.toNat]'(by omega)) := hr _ (List.getElem_mem _)
    generalize l[i.toNat]'(by omega) = p at hrow hst hra
    refine And.intro ?_ (And.intro ?_ ?_)
    · subst hA; simp only [A0, nc]; replace hlt : i < (l.length : Int) := hlt; exact ⟨hi.1, by rw [hlen]; exact hlt⟩
    · subst hA; simp only [A0, nc, hrow, Attr.row]; simp
    refine regYa (T := fun _ => tabY [16,29] []) (tabY_ok _ _) hB hY keyA mapT zeroT p.val hA follows_mixed fun b0 C hC => ?_
    cbv
    have hkey : Value.agg ⟨[.int .i64 (A.gi (A.lift (A.row xs i)) 0), .int .i64 (A.gi (A.lift (A.row xs i)) (A.pl 0 1)), .int .i64 (A.gi (A.lift (A.row xs i)) (A.pl 0 2)), .int .i64 (A.gi (A.lift (A.row xs i)) (A.pl 0 3)), .int .i64 (A.gi (A.lift (A.row xs i)) (A.pl 0 4)), .int .i64 (A.gi (A.lift (A.row xs i)) (A.pl 0 5)), .int .i64 (A.gi (A.lift (A.row xs i)) (A.pl 0 6)), .int .i64 (A.gi (A.lift (A.row xs i)) (A.pl 0 7))]⟩ = p.val := by
      subst hA; simp only [A0, nc, hrow, Attr.row, Attr.val]; simp
    cbv at hkey
    simp only [hkey]
    replace hn : n = (l.length : Int) := hn
    replace hi : 0 ≤ i ∧ i ≤ n := hi
    replace hl : l.length ≤ 4194304 := hl
    have hcl : F p.val = ((l.take i.toNat).count p : Int) := by rw [hF, cntF_count]
    have hle : (l.take i.toNat).count p ≤ l.length := Nat.le_trans List.count_le_length (by rw [List.length_take]; omega)
    have ef : IntKind.wrap .i64 (F p.val + 1) = F p.val + 1 := wrap_i64 (by unfold r64; rw [hcl]; omega)
    have ei : IntKind.wrap .i64 (i + 1) = i + 1 := wrap_i64 (by unfold r64; omega)
    have hfin : putF F p.val (F p.val + 1) = cntF (l.take (i + 1).toNat) := by
      rw [show (i + 1).toNat = i.toNat + 1 by omega, hst, ← hF]
    replace hlt : i < (l.length : Int) := hlt
    have g1 : (0 : Int) ≤ i + 1 := by clear ei ef; omega
    have g2 : i + 1 ≤ n := by clear ei ef; omega
    have g3 : n.toNat - (i + 1).toNat < n.toNat - i.toNat := by clear ei ef; omega
    subst hA hC hR
    simp only [A0, nc]
    repeat' apply And.intro
    all_goals first
      | exact key_val hra
      | rfl
      | trivial
      | (refine ⟨(i + 1, putF F p.val (F p.val + 1)), ⟨⟨g1, g2⟩, hfin⟩, g3, ?_, ?_⟩
         · show some (g, putF F p.val (F p.val + 1)) = some (g, putF F p.val (IntKind.wrap .i64 (F p.val + 1)))
           rw [ef]
         · rw [hB0]
           refine told_keep [0] rfl rfl ?_
           exact ⟨.inl rfl, .inl rfl, .inl rfl, .inl rfl, .inl rfl, .inl (congrArg (fun n => DV.d (.sc (.int .i64 n))) ei.symm), trivial⟩)
  · cbv
    replace hn : n = (l.length : Int) := hn
    replace hi : 0 ≤ i ∧ i ≤ n := hi
    replace hl : l.length ≤ 4194304 := hl
    have hge : ¬ i < n := by
      subst hA
      simpa only [A0, nc, decide_eq_false_iff_not] using h
    have hF2 : F = cntF l := by rw [hF, show i.toNat = l.length by omega, List.take_length]
    have hcnt : ∀ a : Attr, F a.val = (l.count a : Int) := fun a => by rw [hF2, cntF_count]
    clear hF hF2 hge h hR
    obtain ⟨M, hM⟩ : ∃ M : Attr × Int, M = mostL l := ⟨_, rfl⟩
    refine loopG (T := fun _ => tabY [16,29] [1,5,12,13]) (H := fun _ => []) (tabY_ok _ _) noK_ok follows_mixed hB hA hX hY
      (fun x : Int × Attr × Int => (0 ≤ x.1 ∧ x.1 ≤ n) ∧ x.2 = (l.take x.1.toNat).foldl (mostS l) (zeroA, 0)) (fun x => [(2, .ref 0 0 0), (4, .d (.sc (.map (some g)))), (7, .ref 1 0 0), (8, .d (.sc (.int .i64 x.2.2))), (25, .d (.slc 8 xs)), (26, .d (.sc (.int .i64 n))), (27, .d (.sc (.int .i64 x.1)))])
      (fun x => [⟨25, [.d (.sc (.int .i64 0)), .d (.sc (.int .i64 0)), .d (.sc (.int .i64 0)), .d (.sc (.int .i64 0)), .d (.sc (.int .i64 0)), .d (.sc (.int .i64 0)), .d (.sc (.int .i64 0)), .d (.sc (.int .i64 0))], false, 0, true⟩, ⟨25, [.d (.sc (.int .i64 x.2.1.seq)), .d (.sc (.int .i64 x.2.1.d0)), .d (.sc (.int .i64 x.2.1.d1)), .d (.sc (.int .i64 x.2.1.d2)), .d (.sc (.int .i64 x.2.1.d3)), .d (.sc (.int .i64 x.2.1.d4)), .d (.sc (.int .i64 x.2.1.d5)), .d (.sc (.int .i64 x.2.1.d6))], false, 0, true⟩])
      (fun _ => some (g, F)) (fun x => n.toNat - x.1.toNat) (0, zeroA, 0) ⟨⟨Int.le_refl 0, by show 0 ≤ n; omega⟩, rfl⟩ ?_ rfl ?_
    · subst hA
      rw [hB0]
      refine told_less ?_
      exact ⟨.inl rfl, .inl rfl, .inl rfl, .inl rfl, .inl rfl, .inl (by show DV.d (.sc (.int .i64 n)) = DV.d (.sc (.int .i64 (xs.length : Int))); rw [hn, hlen]), .inl rfl, trivial⟩
    rintro R ⟨j, ⟨bs, b0, b1, b2, b3, b4, b5, b6⟩, m⟩ hR ⟨hj, hbm⟩
    replace hj : 0 ≤ j ∧ j ≤ n := hj
    cbv
    refine part (fun h => ?_) (fun h => ?_)
    · cbv
      replace hn : n = (l.length : Int) := hn
      replace hj : 0 ≤ j ∧ j ≤ n := hj
      have hlt : j < (l.length : Int) := by
        subst hA
        simp only [A0, nc, decide_eq_true_eq] at h
        omega
      have hrow := arow hxs hj.1 hlt
      have hst : (l.take (j.toNat + 1)).foldl (mostS l) (zeroA, 0) = mostS l ((l.take j.toNat).foldl (mostS l) (zeroA, 0)) (l[j.toNat]'(by omega)) := by
        rw [List.take_succ_eq_append_getElem (by omega), List.foldl_append]
        rfl
      have hra : rAttr (l[j.toNat]'(by omega)) := hr _ (List.getElem_mem _)
      generalize l[j.toNat]'(by omega) = p at hrow hst hra
      rw [← hbm] at hst
      refine And.intro ?_ (And.intro ?_ ?_)
      · subst hA; simp only [A0, nc]; replace hlt : j < (l.length : Int) := hlt; exact ⟨hj.1, by rw [hlen]; exact hlt⟩
      · subst hA; simp only [A0, nc, hrow, Attr.row]; simp
      have hkey : Value.agg ⟨[.int .i64 (A.gi (A.lift (A.row xs j)) 0), .int .i64 (A.gi (A.lift (A.row xs j)) (A.pl 0 1)), .int .i64 (A.gi (A.lift (A.row xs j)) (A.pl 0 2)), .int .i64 (A.gi (A.lift (A.row xs j)) (A.pl 0 3)), .int .i64 (A.gi (A.lift (A.row xs j)) (A.pl 0 4)), .int .i64 (A.gi (A.lift (A.row xs j)) (A.pl 0 5)), .int .i64 (A.gi (A.lift (A.row xs j)) (A.pl 0 6)), .int .i64 (A.gi (A.lift (A.row xs j)) (A.pl 0 7))]⟩ = p.val := by
        subst hA; simp only [A0, nc, hrow, Attr.row, Attr.val]; simp
      refine regYr (T := fun _ => tabY [16,29] []) (tabY_ok _ _) hB hY keyA mapT zeroT p.val hA fun w0 C hC => ?_
      cbv
      cbv at hkey
      simp only [hkey]
      have hmem := hcnt p
      refine And.intro (by subst hC; rfl) (And.intro (by subst hC; rfl) (And.intro (by subst hC; exact key_val hra) ?_))
      have ej : IntKind.wrap .i64 (j + 1) = j + 1 := wrap_i64 (by replace hl : l.length ≤ 4194304 := hl; replace hlt : j < (l.length : Int) := hlt; unfold r64; omega)
      replace hn : n = (l.length : Int) := hn
      replace hlt : j < (l.length : Int) := hlt
      replace hj : 0 ≤ j ∧ j ≤ n := hj
      have g0 : (j + 1).toNat = j.toNat + 1 := by clear ej; omega
      have g1 : (0 : Int) ≤ j + 1 := by clear ej; omega
      have g2 : j + 1 ≤ n := by clear ej; omega
      have g3 : n.toNat - (j + 1).toNat < n.toNat - j.toNat := by clear ej; omega
      have hlook : C.look F p.val = (l.count p : Int) := by subst hC; exact hmem
      cbv at hlook
      refine part (fun h2 => ?_) (fun h2 => ?_)
      · cbv
        refine regYa (T := fun _ => tabY [16,29] []) (tabY_ok _ _) hB hY keyA mapT zeroT p.val hA follows_mixed fun w0' C' hC' => ?_
        cbv
        simp only [hkey]
        have hgt : m < (l.count p : Int) := by
          subst hA hC
          simp only [A0, nc, decide_eq_true_eq] at h2
          have h3 : m < F p.val := h2
          rwa [hmem] at h3
        have hst2 : (l.take (j + 1).toNat).foldl (mostS l) (zeroA, 0) = (p, (l.count p : Int)) := by
          rw [g0, hst]
          unfold mostS
          exact if_pos hgt
        subst hA hC hC' hR
        simp only [A0, nc]
        simp only [hrow, Attr.row, List.map_cons, List.map_nil, Nat.zero_add, List.getElem?_cons_zero, List.getElem?_cons_succ]
        repeat' apply And.intro
        all_goals first
          | exact key_val hra
          | rfl
          | trivial
          | (refine ⟨(j + 1, p, (l.count p : Int)), ⟨⟨g1, g2⟩, hst2.symm⟩, g3, by first | rfl | trivial, ?_⟩
             rw [hB0]
             refine told_keep [0, 1] rfl ?_ ?_
             · simp [keepSt, pullBox, pullL_eq, pullD, hrow, Attr.row]
             · exact ⟨.inl rfl, .inl rfl, .inl rfl, .inl (by show DV.d (.sc (.int .i64 _)) = DV.d (.sc (.int .i64 (F p.val))); rw [hmem]), .inl rfl, .inl rfl, .inl (congrArg (fun n => DV.d (.sc (.int .i64 n))) ej.symm), trivial⟩)
      · cbv
        have hle : ¬ m < (l.count p : Int) := by
          subst hA hC
          simp only [A0, nc, decide_eq_false_iff_not] at h2
          have h3 : ¬ m < F p.val := h2
          rwa [hmem] at h3
        have hst2 : (l.take (j + 1).toNat).foldl (mostS l) (zeroA, 0) = (⟨bs, b0, b1, b2, b3, b4, b5, b6⟩, m) := by
          rw [g0, hst]
          unfold mostS
          exact if_neg hle
        subst hA hC hR
        simp only [A0, nc]
        refine ⟨(j + 1, ⟨bs, b0, b1, b2, b3, b4, b5, b6⟩, m), ⟨⟨g1, g2⟩, hst2.symm⟩, g3, by first | rfl | trivial, ?_⟩
        rw [hB0]
        refine told_keep [0, 1] rfl ?_ ?_
        · simp [keepSt, pullBox, pullL_eq, pullD]
        · exact ⟨.inl rfl, .inl rfl, .inl rfl, .inl rfl, .inl rfl, .inl rfl, .inl (congrArg (fun n => DV.d (.sc (.int .i64 n))) ej.symm), trivial⟩
    · cbv
      replace hn : n = (l.length : Int) := hn
      replace hj : 0 ≤ j ∧ j ≤ n := hj
      have hge : ¬ j < n := by
        subst hA
        simpa only [A0, nc, decide_eq_false_iff_not] using h
      subst hA hX hW hR
      rw [show j.toNat = l.length by omega, List.take_length] at hbm
      refine ret_v ?_ rfl
      show _ = DV.tup [(mostL l).1.D, intD (mostL l).2]
      unfold mostL
      rw [← hbm]
      rfl
structure FsO where
  most : List (List PD) → Attr × Int
  isAt : List (List PD) → Prop
def FsO0 : FsO where
  most := mostX
  isAt := isAt
def kn_most (F : FsO) : FuncId × (List DV → RV) := (11, fun args => match args with
  | [.d (.slc 8 xs)] => some ([F.isAt xs], .tup [Attr.D (((F.most xs)).1), intD (((F.most xs)).2)])
  | [.d (.sc (.slice none 0 0))] => some ([F.isAt []], .tup [Attr.D (((F.most [])).1), intD (((F.most [])).2)])
  | _ => none)
theorem ok_most (args : List DV) (cs : List Prop) (r : DV) (h : (kn_most FsO0).2 args = some (cs, r)) (hc : allP cs True) : FnV Try.prog 11 args r ∧ closedL 0 args = true := by
  unfold kn_most at h
  simp only at h
  split at h
  · cases h; exact ⟨v_most _ hc.1, rfl⟩
  · cases h; exact ⟨FnP.nils (v_most [] hc.1) ⟨.inr ⟨rfl, _, rfl⟩, trivial⟩, rfl⟩
  · cases h
end Go.Proofs.Ytikodmddomaneaa
