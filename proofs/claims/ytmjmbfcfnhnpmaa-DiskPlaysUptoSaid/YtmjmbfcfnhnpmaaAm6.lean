/- The program logic, sixth part: one operand, conversions, slices, lengths, composites. No condition: lemmas of any program. -/
import Derived.Test.YtmjmbfcfnhnpmaaAm5
namespace Go.Proofs.Ytmjmbfcfnhnpmaa
open Go.RowKit
set_option linter.all false
def unD (op : UnOp) (x : DV) (K : DV → Prop) : Prop :=
  match op, x with
  | .not, .d (.sc (.bool b)) => K (.d (.sc (.bool (!b))))
  | .neg, .d (.sc (.int k n)) => K (.d (.sc (.int k (k.wrap (0 - n)))))
  | .xor, .d (.sc (.int k n)) => K (.d (.sc (.int k (bitsV k (· ^^^ ·) (if k.signed then -1 else k.max) n))))
  | _, _ => False
theorem un_ok {P : Program} {E : Env} {op : UnOp} {x : DV} {v : Value} (hx : Rep E x v) {K : DV → Prop} (h : unD op x K) : ∃ r d, (Op.unary op v).run P E.w = .ok r E.w ∧ K d ∧ Rep E d r := by
  unfold unD at h
  split at h
  all_goals first
    | (simp only [Rep, RepP] at hx; subst hx; exact ⟨_, _, rfl, h, rfl⟩)
    | exact h.elim
/-- Bytes, as elements. -/
def bytesP (bs : List UInt8) : List (List PD) := bs.map fun b => [.sc (.int .u8 b.toNat)]
theorem bytesP_inj {a b : List UInt8} : bytesP a = bytesP b ↔ a = b := by
  refine ⟨fun h => ?_, fun h => by rw [h]⟩
  refine List.map_inj_right (f := fun b : UInt8 => [PD.sc (.int .u8 b.toNat)]) (fun x y hxy => ?_) |>.1 h
  simp at hxy
  exact UInt8.toNat_inj.1 (by omega)
theorem bytesP_length (a : List UInt8) : (bytesP a).length = a.length := by simp [bytesP]
theorem bytesP_append (a b : List UInt8) : bytesP a ++ bytesP b = bytesP (a ++ b) := by simp [bytesP]
theorem bytesP_flat (a : List UInt8) : (bytesP a).flatten = a.map fun b => PD.sc (.int .u8 b.toNat) := by
  induction a with
  | nil => rfl
  | cons b a ih => simp only [bytesP, List.map_cons, List.flatten_cons, List.cons_append, List.nil_append] at ih ⊢; rw [ih]
def convD (P : Program) (src dst : TypeId) (x : DV) (K : DV → Prop) : Prop :=
  match P.underlying src, P.underlying dst, x with
  | some _, some (.int k), .d (.sc (.int _ n)) => K (.d (.sc (.int k (k.wrap n))))
  | some _, some .string, .d (.sc (.string s)) => K (.d (.sc (.string s)))
  | some (.slice e), some .string, .d (.slc 1 xs) => P.underlying e = some (.int .u8) ∧ ∃ bs, xs = bytesP bs ∧ K (.d (.sc (.string ⟨bs.toArray⟩)))
  | some (.slice e), some .string, .d (.sc (.slice none 0 0)) => P.underlying e = some (.int .u8) ∧ K (.d (.sc (.string .empty)))
  | _, _, _ => False
theorem run_bytesToString {P : Program} (w : World) (a : Addr) (bs : List UInt8) (c : Nat) (h : ∀ (j : Nat) (v : Value), (bs.map fun b => Value.int .u8 b.toNat)[j]? = some v → w.cell? (a.add j) = some v) :
    (Conv.bytesToString (.slice (some a) bs.length c)).run P w = .ok (.string ⟨bs.toArray⟩) w := by
  have hl := run_loadCells_list (P := P) w a (bs.map fun b => Value.int .u8 b.toNat) h
  simp only [List.length_map] at hl
  simp only [Conv.bytesToString, Sem.run_bind, hl, Result.andThen_ok]
  rw [← Array.forIn_toList]
  have key : ∀ (f : Value → ByteArray → Sem (ForInStep ByteArray)), (∀ (b : UInt8) (s : ByteArray), (f (.int .u8 b.toNat) s).run P w = .ok (.yield (s.push b)) w) →
      ∀ (l : List UInt8) (acc : ByteArray), (forIn (l.map fun b => Value.int .u8 b.toNat) acc f).run P w = .ok ⟨acc.data ++ l.toArray⟩ w := by
    intro f hf l
    induction l with
    | nil => intro acc; simp
    | cons b l ih =>
      intro acc
      simp only [List.map_cons, List.forIn_cons, Sem.run_bind, hf, Result.andThen_ok, ih]
      congr 2
      apply Array.ext'
      simp [ByteArray.push]
  rw [key _ (fun b s => by simp) bs ByteArray.empty]
  simp
theorem conv_ok {P : Program} {E : Env} {src dst : TypeId} {x : DV} {v : Value} (hx : Rep E x v) {K : DV → Prop} (h : convD P src dst x K) : ∃ r d, (convert src dst v).run P E.w = .ok r E.w ∧ K d ∧ Rep E d r := by
  unfold convD at h
  split at h
  · rename_i hs hd
    simp only [Rep, RepP] at hx; subst hx
    exact ⟨_, _, by simp only [convert, Sem.run_bind, run_underlying hs, run_underlying hd, Result.andThen_ok]; rfl, h, rfl⟩
  · rename_i u s hs hd
    simp only [Rep, RepP] at hx; subst hx
    refine ⟨.string s, _, ?_, h, rfl⟩
    simp only [convert, Sem.run_bind, run_underlying hs, run_underlying hd, Result.andThen_ok]
    cases u <;> rfl
  · rename_i e xs hs hd
    obtain ⟨he, bs, rfl, h⟩ := h
    rcases hx with ⟨hnil, rfl⟩ | ⟨a, c, rfl, h1, h2, h3, h4⟩
    · have hb : bs = [] := List.eq_nil_of_length_eq_zero (by rw [← bytesP_length, hnil]; rfl)
      subst hb
      exact ⟨.string .empty, _, by simp only [convert, Sem.run_bind, run_underlying hs, run_underlying hd, Result.andThen_ok, run_underlying he]; rfl, h, rfl⟩
    obtain ⟨f1, f2⟩ := RowsP.flat _ _ h4
    refine ⟨.string ⟨bs.toArray⟩, _, ?_, h, rfl⟩
    have hb := run_bytesToString (P := P) E.w a bs c (fun j v hj => by
      rw [List.getElem?_map] at hj
      cases hq : bs[j]? with
      | none => simp [hq] at hj
      | some b =>
        simp [hq] at hj
        subst hj
        obtain ⟨u, g1, g2, g3⟩ := f1.get _ _ j (.sc (.int .u8 b.toNat)) (by rw [bytesP_flat]; simp [hq])
        rw [g1, show u = _ from g3])
    simp only [convert, Sem.run_bind, run_underlying hs, run_underlying hd, Result.andThen_ok, run_underlying he, bytesP_length, hb]
  · rename_i e hs hd
    obtain ⟨he, h⟩ := h
    simp only [Rep, RepP] at hx; subst hx
    exact ⟨.string .empty, _, by simp only [convert, Sem.run_bind, run_underlying hs, run_underlying hd, Result.andThen_ok, run_underlying he]; rfl, h, rfl⟩
  · exact h.elim
/-- A bound of a slice. -/
def boundD (dflt : Int) : Option DV → Option Int
  | none => some dflt
  | some d => intOfD d
theorem bound_run {E : Env} {x : Option DV} {v : Option Value} (hx : match x, v with | none, none => True | some d, some u => Rep E d u | _, _ => False) {dflt : Nat} {i : Int} (h : boundD dflt x = some i) :
    (x = none ∧ v = none ∧ i = dflt) ∨ (∃ k, v = some (.int k i)) := by
  cases x with
  | none =>
    cases v with
    | none => simp [boundD] at h; exact .inl ⟨rfl, rfl, h.symm⟩
    | some _ => exact hx.elim
  | some d =>
    cases v with
    | none => exact hx.elim
    | some u =>
      obtain ⟨k, rfl⟩ := intOfD_spec h
      simp only [Rep, RepP] at hx
      subst hx
      exact .inr ⟨k, rfl⟩
theorem run_bounds {P : Program} {E : Env} {isS : Bool} {len cap : Nat} {lo hi : Option DV} {vl vh : Option Value} (hl : match lo, vl with | none, none => True | some d, some u => Rep E d u | _, _ => False)
    (hh : match hi, vh with | none, none => True | some d, some u => Rep E d u | _, _ => False) {l h : Int} (el : boundD 0 lo = some l) (eh : boundD len hi = some h) (h0 : 0 ≤ l) (h1 : l ≤ h) (h2 : h ≤ cap) :
    (Instr.sliceBounds isS len cap vl vh none).run P E.w = .ok (l.toNat, h.toNat, cap) E.w := by
  rcases bound_run hh eh with ⟨rfl, rfl, rfl⟩ | ⟨k, rfl⟩
  · rcases bound_run (dflt := 0) hl el with ⟨rfl, rfl, rfl⟩ | ⟨k', rfl⟩
    · simp [Instr.sliceBounds]
    · simp [Instr.sliceBounds, Instr.sliceBound, asIntOf, h0, h1]
  · have h3 : 0 ≤ h := by omega
    rcases bound_run (dflt := 0) hl el with ⟨rfl, rfl, rfl⟩ | ⟨k', rfl⟩
    · simp [Instr.sliceBounds, Instr.sliceBound, asIntOf, h3, h2]
    · have h4 : max h 0 = h := by omega
      simp [Instr.sliceBounds, Instr.sliceBound, asIntOf, h3, h2, h0, h1, h4]
/-- A part of a row, of which it is known that it lies within the room. -/
def slice2D (bx : Box) (sz b o n : Nat) (l h : Int) (K : DV → Prop) : Prop :=
  (0 ≤ l ∧ l ≤ h ∧ 0 < sz ∧ bx.live = true) ∧ (h ≤ n ∨ (bx.ext = false ∧ o + h.toNat * sz ≤ bx.cells.length)) ∧ (l = 0 ∨ l < n ∨ (bx.ext = false ∧ o + l.toNat * sz < bx.cells.length)) ∧ K (.view sz b bx.ver (o + l.toNat * sz) (h.toNat - l.toNat))
/-- A slice of a text or of a slice. -/
def sliceD (P : Program) (st : Store) (t : TypeId) (x : DV) (lo hi : Option DV) (K : DV → Prop) : Prop :=
  match x with
  | .d (.sc (.string s)) => P.underlying t = some .string ∧ match boundD 0 lo, boundD s.size hi with
    | some l, some h => (0 ≤ l ∧ l ≤ h ∧ h ≤ s.size) ∧ K (.d (.sc (.string (s.extract l.toNat h.toNat))))
    | _, _ => False
  | .d (.slc sz xs) => match slD P t, boundD 0 lo, boundD xs.length hi with
    | some (_, sz'), some l, some h => sz' = sz ∧ (0 ≤ l ∧ l ≤ h ∧ h ≤ xs.length) ∧ K (.d (.slc sz ((xs.drop l.toNat).take (h.toNat - l.toNat))))
    | _, _, _ => False
  | .d (.sc (.slice none 0 0)) => match slD P t, boundD 0 lo, boundD 0 hi with
    | some _, some l, some h => (l = 0 ∧ h = 0) ∧ K nilS
    | _, _, _ => False
  | .view sz b ver o n => match slD P t, boundD 0 lo, boundD n hi, st[b]? with
    | some (_, sz'), some l, some h, some bx => sz' = sz ∧ ver = bx.ver ∧ (((0 ≤ l ∧ l ≤ h ∧ h ≤ n) ∧ (l = 0 → K (.view sz b ver o h.toNat)) ∧ (0 < l → l = h → K (.d (.slc sz []))) ∧ (0 < l → l < h → K (.view sz b ver (o + l.toNat * sz) (h.toNat - l.toNat)))) ∨ slice2D bx sz b o n l h K)
    | _, _, _, _ => False
  | _ => False
theorem slice_ok {P : Program} {E : Env} (hc : Conc E) {t : TypeId} {x : DV} {v : Value} {lo hi : Option DV} {vl vh : Option Value} (hx : Rep E x v) (hl0 : match lo, vl with | none, none => True | some d, some u => Rep E d u | _, _ => False)
    (hh0 : match hi, vh with | none, none => True | some d, some u => Rep E d u | _, _ => False) {K : DV → Prop} (h : sliceD P E.st t x lo hi K) :
    ∃ r d, (Instr.sliceAt t v vl vh none).run P E.w = .ok r E.w ∧ K d ∧ Rep E d r := by
  unfold sliceD at h
  split at h
  · rename_i s
    obtain ⟨hu, h⟩ := h
    split at h
    · rename_i l hh' e1 e2
      obtain ⟨⟨h0, h1, h2⟩, h⟩ := h
      simp only [Rep, RepP] at hx; subst hx
      have hb := run_bounds (P := P) (isS := false) (cap := s.size) hl0 hh0 e1 e2 h0 h1 h2
      exact ⟨_, _, by simp only [Instr.sliceAt, Instr.slice, Sem.run_bind, run_underlying hu, Result.andThen_ok, Option.isSome_none, Bool.false_eq_true, ↓reduceIte, hb, Sem.run_pure], h, rfl⟩
    · exact h.elim
  · rename_i sz xs
    split at h
    · rename_i e' sz' l hh' hs e1 e2
      obtain ⟨rfl, ⟨h0, h1, h2⟩, h⟩ := h
      obtain ⟨hu, _, hsz⟩ := slD_spec hs
      rcases hx with ⟨rfl, rfl⟩ | ⟨a, c, rfl, hc1, hc2, hS, hR⟩
      · simp only [List.length_nil, Int.natCast_zero] at h2 e2
        have hb := run_bounds (P := P) (isS := true) (len := 0) (cap := 0) hl0 hh0 e1 e2 h0 h1 (by omega)
        have hl0 : l.toNat = 0 := by omega
        have hh0 : hh'.toNat = 0 := by omega
        exact ⟨.slice none 0 0, _, by simp [Instr.sliceAt, Instr.slice, run_underlying hu, hb, hsz, hl0, hh0], h, .inl ⟨by simp, rfl⟩⟩
      have hb := run_bounds (P := P) (isS := true) (cap := c) hl0 hh0 e1 e2 h0 h1 (by omega)
      refine ⟨.slice (if c = l.toNat then some a else (some a).map (·.add (l.toNat * sz'))) (hh'.toNat - l.toNat) (c - l.toNat), _, by simp only [Instr.sliceAt, Instr.slice, Sem.run_bind, run_underlying hu, Result.andThen_ok, hb, hsz, Sem.run_pure], h, ?_⟩
      have hlen : ((xs.drop l.toNat).take (hh'.toNat - l.toNat)).length = hh'.toNat - l.toNat := by simp; omega
      by_cases hcl : c = l.toNat
      · have hnil : (xs.drop l.toNat).take (hh'.toNat - l.toNat) = [] := List.eq_nil_of_length_eq_zero (by omega)
        refine .inr ⟨a, c - l.toNat, ?_, ?_, by omega, fun hx => absurd hnil hx, by rw [hnil]; trivial⟩
        · rw [hlen, if_pos hcl]
        · rw [hlen]; omega
      · refine .inr ⟨a.add (l.toNat * sz'), c - l.toNat, ?_, ?_, by omega, fun hx => ?_, (hR.cut _ _ _).take _ _ _⟩
        · rw [hlen, if_neg hcl]; rfl
        · rw [hlen]; omega
        · rw [block_add]
          exact hS (fun e => hx (by simp [e]))
    · exact h.elim
  · split at h
    · rename_i q l hh' hs e1 e2
      obtain ⟨⟨rfl, rfl⟩, h⟩ := h
      simp only [Rep, RepP] at hx; subst hx
      obtain ⟨hu, _, hsz⟩ := slD_spec (e := q.1) (sz := q.2) hs
      have hb := run_bounds (P := P) (isS := true) (len := 0) (cap := 0) hl0 hh0 e1 e2 (by omega) (by omega) (by omega)
      exact ⟨.slice none 0 0, _, by simp [Instr.sliceAt, Instr.slice, run_underlying hu, hb, hsz], h, rfl⟩
    · exact h.elim
  · rename_i sz b ver o n
    split at h
    · rename_i e' sz' l hh' bx hs e1 e2 hb'
      obtain ⟨rfl, rfl, h⟩ := h
      obtain ⟨bx', gz, hb, hg, hone, hle, hv⟩ := hx
      rw [hb] at hb'
      cases hb'
      obtain ⟨c, rfl, hc1, hc2, hc3⟩ := hv rfl
      obtain ⟨hu, _, hsz⟩ := slD_spec hs
      rcases h with ⟨⟨h0, h1, h2⟩, k0, k1, k2⟩ | ⟨⟨h0, h1, hz0, hl⟩, h2, h3, k⟩
      rotate_left
      · obtain ⟨cur, a1, a2, a3, a4, a5, a6, a7, a8⟩ := hc.box b bx gz.1 gz.2 hb hg hl
        have hcap : bx.ext = false → o + c * sz' = bx.cells.length := fun he => by have := a4 he; omega
        have hh : hh'.toNat ≤ c := by
          rcases h2 with h2 | ⟨he, h2⟩
          · omega
          · have := hcap he
            exact Nat.le_of_mul_le_mul_right (by omega : hh'.toNat * sz' ≤ c * sz') hz0
        have hlc : l.toNat = 0 ∨ l.toNat < c := by
          rcases h3 with h3 | h3 | ⟨he, h3⟩
          · omega
          · omega
          · have := hcap he
            exact .inr (Nat.lt_of_mul_lt_mul_right (a := sz') (by omega))
        have hbd := run_bounds (P := P) (isS := true) (len := n) (cap := c) hl0 hh0 e1 e2 h0 h1 (by omega)
        refine ⟨.slice (if c = l.toNat then some ⟨gz.1, o, none⟩ else (some (⟨gz.1, o, none⟩ : Addr)).map (·.add (l.toNat * sz'))) (hh'.toNat - l.toNat) (c - l.toNat), _, by simp only [Instr.sliceAt, Instr.slice, Sem.run_bind, run_underlying hu, Result.andThen_ok, hbd, hsz, Sem.run_pure], k, bx, gz, hb, hg, ?_, Nat.le_refl _, fun _ => ⟨c - l.toNat, ?_, by omega, by omega, ?_⟩⟩
        · rfl
        · have hadd : (⟨gz.1, o, none⟩ : Addr).add (l.toNat * sz') = ⟨gz.1, o + l.toNat * sz', none⟩ := by unfold Addr.add; split <;> simp_all
          simp only [Option.map_some, hadd]
          split
          · rename_i hcl
            have hl0 : l.toNat = 0 := by omega
            rw [hl0]; simp
          · rfl
        · have h5 : l.toNat * sz' + (c - l.toNat) * sz' = c * sz' := by rw [← Nat.add_mul]; congr 1; omega
          omega
      have hbd := run_bounds (P := P) (isS := true) (cap := c) hl0 hh0 e1 e2 h0 h1 (by omega)
      by_cases hl0 : l = 0
      · subst hl0
        refine ⟨.slice (some ⟨gz.1, o, none⟩) hh'.toNat c, _, ?_, k0 rfl, bx, gz, hb, hg, rfl, Nat.le_refl _, fun _ => ⟨c, rfl, by omega, hc2, hc3⟩⟩
        have hadd : (⟨gz.1, o, none⟩ : Addr).add (0 * sz') = ⟨gz.1, o, none⟩ := by simp [Addr.add]
        simp only [Instr.sliceAt, Instr.slice, Sem.run_bind, run_underlying hu, Result.andThen_ok, hbd, hsz, Sem.run_pure, Int.toNat_zero, Nat.sub_zero, Option.map_some, hadd, ite_self]
      have hlp : 0 < l := by omega
      by_cases hlh : l = hh'
      · subst hlh
        refine ⟨.slice (if c = l.toNat then some ⟨gz.1, o, none⟩ else (some (⟨gz.1, o, none⟩ : Addr)).map (·.add (l.toNat * sz'))) (l.toNat - l.toNat) (c - l.toNat), _, by simp only [Instr.sliceAt, Instr.slice, Sem.run_bind, run_underlying hu, Result.andThen_ok, hbd, hsz, Sem.run_pure], k1 hlp rfl, ?_⟩
        by_cases hcl : c = l.toNat
        · exact .inr ⟨⟨gz.1, o, none⟩, c - l.toNat, by simp [hcl], by simp, by omega, fun hx => absurd rfl hx, trivial⟩
        · exact .inr ⟨(⟨gz.1, o, none⟩ : Addr).add (l.toNat * sz'), c - l.toNat, by simp [hcl], by simp, by omega, fun hx => absurd rfl hx, trivial⟩
      · refine ⟨.slice (if c = l.toNat then some ⟨gz.1, o, none⟩ else (some (⟨gz.1, o, none⟩ : Addr)).map (·.add (l.toNat * sz'))) (hh'.toNat - l.toNat) (c - l.toNat), _, by simp only [Instr.sliceAt, Instr.slice, Sem.run_bind, run_underlying hu, Result.andThen_ok, hbd, hsz, Sem.run_pure], k2 hlp (by omega), bx, gz, hb, hg, rfl, Nat.le_refl _, fun _ => ⟨c - l.toNat, ?_, by omega, by omega, ?_⟩⟩
        · rw [if_neg (by omega)]
          simp only [Option.map_some]
          congr 2
          unfold Addr.add; split <;> simp_all
        · have h5 : l.toNat * sz' + (c - l.toNat) * sz' = c * sz' := by rw [← Nat.add_mul]; congr 1; omega
          omega
    · exact h.elim
  · exact h.elim
/-- A length. -/
def lenD (P : Program) (st : Store) (t : TypeId) (x : DV) (K : DV → Prop) : Prop :=
  match x with
  | .d (.sc (.string s)) => P.underlying t = some .string ∧ K (.d (.sc (.int .i64 s.size)))
  | .d (.slc _ xs) => (slD P t).isSome = true ∧ K (.d (.sc (.int .i64 xs.length)))
  | .d (.sc (.slice none 0 0)) => (slD P t).isSome = true ∧ K (.d (.sc (.int .i64 0)))
  | .view _ b ver _ n => match st[b]? with
    | some bx => ver = bx.ver ∧ (slD P t).isSome = true ∧ K (.d (.sc (.int .i64 n)))
    | none => False
  | .agg _ => match arrD P t with
    | some (n, _, _) => K (.d (.sc (.int .i64 n)))
    | none => False
  | _ => False
theorem slD_some {P : Program} {t : TypeId} (h : (slD P t).isSome = true) : ∃ e, P.underlying t = some (.slice e) := by
  cases hs : slD P t with
  | none => simp [hs] at h
  | some q => exact ⟨q.1, (slD_spec (e := q.1) (sz := q.2) hs).1⟩
theorem len_ok {P : Program} {E : Env} {t ty : TypeId} {x : DV} {v : Value} (hx : Rep E x v) {K : DV → Prop} (h : lenD P E.st t x K) : ∃ r d, (Builtin.len_ #[t] ty #[v]).run P E.w = .ok r E.w ∧ K d ∧ Rep E d r := by
  unfold lenD at h
  split at h
  · obtain ⟨hu, h⟩ := h
    simp only [Rep, RepP] at hx; subst hx
    exact ⟨_, _, by simp [Builtin.len_, run_underlying hu] <;> rfl, h, rfl⟩
  · obtain ⟨hs, h⟩ := h
    obtain ⟨e, hu⟩ := slD_some hs
    rcases hx with ⟨rfl, rfl⟩ | ⟨a, c, rfl, _⟩
    · exact ⟨_, _, by simp [Builtin.len_, run_underlying hu] <;> rfl, h, rfl⟩
    exact ⟨_, _, by simp [Builtin.len_, run_underlying hu] <;> rfl, h, rfl⟩
  · obtain ⟨hs, h⟩ := h
    obtain ⟨e, hu⟩ := slD_some hs
    simp only [Rep, RepP] at hx; subst hx
    exact ⟨_, _, by simp [Builtin.len_, run_underlying hu] <;> rfl, h, rfl⟩
  · split at h
    · rename_i bx hb'
      obtain ⟨rfl, hs, h⟩ := h
      obtain ⟨e, hu⟩ := slD_some hs
      obtain ⟨bx', gz, hb, hg, hone, hle, hv⟩ := hx
      rw [hb] at hb'
      cases hb'
      obtain ⟨c, rfl, hc1, hc2, hc3⟩ := hv rfl
      exact ⟨_, _, by simp [Builtin.len_, run_underlying hu] <;> rfl, h, rfl⟩
    · exact h.elim
  · split at h
    · rename_i n e sz ha
      obtain ⟨hu, _⟩ := arrD_spec ha
      obtain ⟨vs, rfl, _⟩ := hx
      exact ⟨_, _, by simp [Builtin.len_, run_underlying hu] <;> rfl, h, rfl⟩
    · exact h.elim
  · exact h.elim
end Go.Proofs.Ytmjmbfcfnhnpmaa
