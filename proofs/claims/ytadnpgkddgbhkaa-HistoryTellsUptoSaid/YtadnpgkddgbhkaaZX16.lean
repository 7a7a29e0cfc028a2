/- The program logic, twenty-eighth part: what the arguments of a law read as: plain data of a shape, no heavier than what was read. No condition: lemmas of any program. -/
import Derived.Test.YtadnpgkddgbhkaaZX12
import Derived.Test.YtadnpgkddgbhkaaRows
import Derived.OpenShut
import Derived.WideShapes
namespace Go.Proofs.Ytadnpgkddgbhkaa
open Go.RowKit
set_option linter.all false
inductive Sh where
 | int (k : IntKind)
 | bool
 | str
 | slc (cells : List Sh)
def shF (sh : TypeId → Option (List Sh)) (P : Program) : Nat → List Field → Option (List Sh)
 | _, [] => some []
 | off, f :: fs => match sh f.type with
   | some ks => if f.offset = off ∧ P.cellsOf f.type = ks.length then (match shF sh P (off + ks.length) fs with
      | some r => some (ks ++ r)
      | none => none) else none
   | none => none
def shT (P : Program) : Nat → TypeId → Option (List Sh)
 | 0, _ => none
 | n + 1, t => match P.underlying t with
   | some .bool => some [.bool]
   | some (.int k) => some [.int k]
   | some .string => some [.str]
   | some (.slice e) => (match shT P n e with
     | some cs => if P.cellsOf e = cs.length ∧ 0 < cs.length then some [.slc cs] else none
     | none => none)
   | some (.struct fs) => (match shF (shT P n) P 0 fs.toList with
     | some r => if P.cellsOf t = r.length then some r else none
     | none => none)
   | some (.array len e) => (match shT P n e with
     | some cs => if P.cellsOf e = cs.length ∧ P.cellsOf t = len * cs.length then some (List.replicate len cs).flatten else none
     | none => none)
   | _ => none
mutual
def FitP : Sh → PD → Prop
 | .int k, p => ∃ n, p = .sc (.int k n) ∧ (Lit.int k n).wf = true
 | .bool, p => ∃ b, p = .sc (.bool b)
 | .str, p => ∃ s, p = .sc (.string s) ∧ s.size ≤ maxLen
 | .slc cs, p => ∃ xs, p = .slc cs.length xs ∧ ∀ x ∈ xs, FitL cs x
def FitL : List Sh → List PD → Prop
 | [], ps => ps = []
 | s :: ss, ps => ∃ p qs, ps = p :: qs ∧ FitP s p ∧ FitL ss qs
end
mutual
def wtP : PD → Nat
 | .sc v => (match v with
   | .string s => s.size + 1
   | _ => 1)
 | .slc _ xs => wtR xs + 1
def wtR : List (List PD) → Nat
 | [] => 0
 | x :: xs => wtL x + wtR xs
def wtL : List PD → Nat
 | [] => 0
 | p :: ps => wtP p + wtL ps
end
theorem wtL_append : ∀ ps qs : List PD, wtL (ps ++ qs) = wtL ps + wtL qs
 | [], qs => by simp [wtL]
 | p :: ps, qs => by simp only [List.cons_append, wtL, wtL_append ps qs]; omega
theorem FitL.length : ∀ {ss : List Sh} {ps : List PD}, FitL ss ps → ps.length = ss.length
 | [], _, h => by simp only [FitL] at h; subst h; rfl
 | s :: ss, _, h => by
     simp only [FitL] at h
     obtain ⟨p, qs, rfl, _, h⟩ := h
     simp [FitL.length h]
theorem FitL.append : ∀ {ss ss' : List Sh} {ps ps' : List PD}, FitL ss ps → FitL ss' ps' → FitL (ss ++ ss') (ps ++ ps')
 | [], _, _, _, h, h' => by simp only [FitL] at h; subst h; simpa using h'
 | s :: ss, _, _, _, h, h' => by
     simp only [FitL] at h
     obtain ⟨p, qs, rfl, h1, h2⟩ := h
     simp only [List.cons_append, FitL]
     exact ⟨p, _, rfl, h1, FitL.append h2 h'⟩
abbrev oldS (w : World) : Nat → Prop := fun g => g < w.heap.size
def CellsV (w : World) (ps : List PD) (cs : List Value) : Prop := ps.length = cs.length ∧ ∀ (j : Nat) (p : PD) (u : Value), ps[j]? = some p → cs[j]? = some u → u.oneCell' = true ∧ RepP w (oldS w) p u
theorem CellsV.one {w : World} {p : PD} {u : Value} (h1 : u.oneCell' = true) (h2 : RepP w (oldS w) p u) : CellsV w [p] [u] := by
 refine ⟨rfl, fun j q v hq hv => ?_⟩
 cases j with
 | zero => simp at hq hv; subst hq; subst hv; exact ⟨h1, h2⟩
 | succ j => simp at hq
theorem CellsV.append {w : World} {ps qs : List PD} {cs ds : List Value} (h : CellsV w ps cs) (h' : CellsV w qs ds) : CellsV w (ps ++ qs) (cs ++ ds) := by
 have hl := h.1
 refine ⟨by simp [hl, h'.1], fun j q v hq hv => ?_⟩
 by_cases hj : j < ps.length
 ·rw [List.getElem?_append_left hj] at hq
  rw [List.getElem?_append_left (by omega)] at hv
  exact h.2 j q v hq hv
 ·rw [List.getElem?_append_right (by omega)] at hq
  rw [List.getElem?_append_right (by omega), ← hl] at hv
  exact h'.2 _ q v hq hv
theorem cells?_get {w : World} {base : Nat} {a : Addr} {n : Nat} {cs : List Value} (h : w.cells? base a n = some cs) : cs.length = n ∧ ∀ j u, cs[j]? = some u → w.cell? (a.add j) = some u := by
 unfold World.cells? at h
 split at h
 ·refine ⟨by simpa using mapM_some_length h, fun j u hj => ?_⟩
  have hlt : j < n := by
   have := mapM_some_length h
   have h2 := (List.getElem?_eq_some_iff.1 hj).1
   simp at this
   omega
  have := mapM_some_get h j j (by simp [hlt])
  rw [hj] at this
  exact this
 ·cases h
theorem cell?_lt {w : World} {a : Addr} {u : Value} (h : w.cell? a = some u) : a.block < w.heap.size := by
 unfold World.cell? at h
 split at h
 ·rename_i hb
  exact (Array.getElem?_eq_some_iff.1 hb).1
 ·cases h
theorem CellsV.at {w : World} : ∀ {ps : List PD} {cs : List Value} {a : Addr}, CellsV w ps cs → (∀ j u, cs[j]? = some u → w.cell? (a.add j) = some u) → CellsP w (oldS w) ps a := by
 intro ps cs a h hc
 refine CellsP.of_get ps a fun j p hp => ?_
 have hj := (List.getElem?_eq_some_iff.1 hp).1
 have hl := h.1
 obtain ⟨h1, h2⟩ := h.2 j p _ hp (List.getElem?_eq_getElem (show j < cs.length by omega))
 exact ⟨_, hc j _ (List.getElem?_eq_getElem _), h1, h2⟩
def Opens (H : Type) (w : World) (shs : List Sh) (cs : List Value) (d : DataW H) : Prop := ∃ pds, FitL shs pds ∧ CellsV w pds cs ∧ wtL pds ≤ Rows.uptoBulk d
section
variable {H : Type} {enc : TypeId × Value → H} {P : Program} {w : World} {spare : Nat → Bool} {held : Bool}
theorem open_fields {r : TypeId → List Value → Option (DataW H × List MemPlace)} {sh : TypeId → Option (List Sh)} {cs : List Value}
  (hr : ∀ t cs x shs, r t cs = some x → sh t = some shs → Opens H w shs cs x.1) : ∀ (fs : List Field) (xs : List (DataW H × List MemPlace)) (off : Nat) (shs : List Sh), xs.length = fs.length → shF sh P off fs = some shs → off + shs.length ≤ cs.length →
  (∀ (i : Nat) (f : Field), fs[i]? = some f → r f.type ((cs.drop f.offset).take (P.cellsOf f.type)) = xs[i]?) → ∃ pds, FitL shs pds ∧ CellsV w pds ((cs.drop off).take shs.length) ∧ wtL pds ≤ Rows.uptoBulkAll (xs.map (·.1))
 | [], xs, off, shs, hl, hs, _, _ => by
     simp only [shF, Option.some.injEq] at hs
     subst hs
     exact ⟨[], rfl, ⟨by simp, fun j p u hp => by simp at hp⟩, by simp [wtL]⟩
 | f :: fs, xs, off, shs, hl, hs, hle, h => by
     unfold shF at hs
     split at hs
     ·rename_i ks hk
      split at hs
      ·rename_i hc
       split at hs
       ·rename_i r' hr'
        cases hs
        obtain ⟨hoff, hcells⟩ := hc
        cases xs with
        | nil => simp at hl
        | cons x xs =>
          have h0 := h 0 f rfl
          rw [hoff, hcells] at h0
          simp only [List.getElem?_cons_zero] at h0
          obtain ⟨p1, f1, c1, w1⟩ := hr _ _ _ _ h0 hk
          simp only [List.length_append] at hle
          have hle' : off + ks.length + r'.length ≤ cs.length := by omega
          obtain ⟨p2, f2, c2, w2⟩ := open_fields hr fs xs (off + ks.length) r' (by simpa using hl) hr' hle' (fun i f' hf' => by simpa using h (i + 1) f' (by simpa using hf'))
          refine ⟨p1 ++ p2, f1.append f2, ?_, ?_⟩
          ·have e : (cs.drop off).take (ks ++ r').length = (cs.drop off).take ks.length ++ (cs.drop (off + ks.length)).take r'.length := by
            rw [List.length_append, List.take_add, List.drop_drop]
           rw [e]
           exact c1.append c2
          ·rw [wtL_append]
           simp only [List.map_cons, Rows.uptoBulkAll]
           omega
       ·cases hs
      ·cases hs
     ·cases hs
theorem open_elems {r : List Value → Option (DataW H × List MemPlace)} {ks : List Sh} {cs : List Value}
  (hr : ∀ cs x, r cs = some x → Opens H w ks cs x.1) : ∀ (n : Nat) (xs : List (DataW H × List MemPlace)) (off : Nat), xs.length = n → off + n * ks.length ≤ cs.length →
  (∀ (i : Nat), i < n → r ((cs.drop (off + i * ks.length)).take ks.length) = xs[i]?) → ∃ pds, FitL (List.replicate n ks).flatten pds ∧ CellsV w pds ((cs.drop off).take (n * ks.length)) ∧ wtL pds ≤ Rows.uptoBulkAll (xs.map (·.1))
 | 0, xs, off, hl, _, _ => ⟨[], rfl, ⟨by simp, fun j p u hp => by simp at hp⟩, by simp [wtL]⟩
 | n + 1, xs, off, hl, hle, h => by
     cases xs with
     | nil => simp at hl
     | cons x xs =>
       have h0 := h 0 (by omega)
       simp only [Nat.zero_mul, Nat.add_zero, List.getElem?_cons_zero] at h0
       obtain ⟨p1, f1, c1, w1⟩ := hr _ _ h0
       rw [Nat.add_mul, Nat.one_mul] at hle
       have hle' : off + ks.length + n * ks.length ≤ cs.length := by omega
       obtain ⟨p2, f2, c2, w2⟩ := open_elems hr n xs (off + ks.length) (by simpa using hl) hle' (fun i hi => by
        have := h (i + 1) (by omega)
        rw [Nat.add_mul, Nat.one_mul] at this
        rw [show off + ks.length + i * ks.length = off + (i * ks.length + ks.length) by omega]
        simpa using this)
       refine ⟨p1 ++ p2, ?_, ?_, ?_⟩
       ·rw [List.replicate_succ, List.flatten_cons]
        exact f1.append f2
       ·have e : (cs.drop off).take ((n + 1) * ks.length) = (cs.drop off).take ks.length ++ (cs.drop (off + ks.length)).take (n * ks.length) := by
         rw [Nat.add_mul, Nat.one_mul, Nat.add_comm, List.take_add, List.drop_drop]
        rw [e]
        exact c1.append c2
       ·rw [wtL_append]
        simp only [List.map_cons, Rows.uptoBulkAll]
        omega
theorem wtR_le : ∀ (rows : List (List PD)) (xs : List (DataW H)), rows.length = xs.length → (∀ (i : Nat) (x : List PD) (d : DataW H), rows[i]? = some x → xs[i]? = some d → wtL x ≤ Rows.uptoBulk d) → wtR rows ≤ Rows.uptoBulkAll xs
 | [], [], _, _ => by simp [wtR]
 | x :: rows, d :: xs, hl, h => by
     have h0 := h 0 x d rfl rfl
     have := wtR_le rows xs (by simpa using hl) fun i x' d' h1 h2 => h (i + 1) x' d' (by simpa using h1) (by simpa using h2)
     simp only [wtR, Rows.uptoBulkAll]
     omega
 | [], _ :: _, hl, _ => by simp at hl
 | _ :: _, [], hl, _ => by simp at hl
theorem RowsP.of_get {S : Nat → Prop} {sz : Nat} : ∀ (xs : List (List PD)) (a : Addr), (∀ (i : Nat) (x : List PD), xs[i]? = some x → x.length = sz ∧ CellsP w S x (a.add (i * sz))) → RowsP w S sz xs a
 | [], _, _ => trivial
 | x :: xs, a, h => by
     obtain ⟨h1, h2⟩ := h 0 x rfl
     refine ⟨h1, by simpa [Addr.add] using h2, RowsP.of_get xs (a.add sz) fun i x' hi => ?_⟩
     obtain ⟨k1, k2⟩ := h (i + 1) x' (by simpa using hi)
     refine ⟨k1, ?_⟩
     rw [add_add', show sz + i * sz = (i + 1) * sz by rw [Nat.add_mul]; omega]
     exact k2
theorem open_trod : ∀ (fuel n : Nat) (t : TypeId) (cs : List Value) (x : DataW H × List MemPlace) (shs : List Sh), DataW.trod enc P w 0 spare held fuel t cs = some x → shT P n t = some shs → Opens H w shs cs x.1
 | fuel, 0, t, cs, x, shs, h, hs => by cases hs
 | fuel, n + 1, t, cs, x, shs, h, hs => by
    unfold shT at hs
    split at hs
    ·rename_i hu
     cases hs
     obtain ⟨b, rfl, rfl⟩ := DataW.trod_bool hu h
     exact ⟨[.sc (.bool b)], ⟨_, _, rfl, ⟨b, rfl⟩, rfl⟩, .one rfl rfl, by simp [wtL, wtP, Rows.uptoBulk]⟩
    ·rename_i k hu
     cases hs
     obtain ⟨b, rfl, rfl, hw⟩ := DataW.trod_int hu h
     exact ⟨[.sc (.int k b)], ⟨_, _, rfl, ⟨b, rfl, hw⟩, rfl⟩, .one rfl rfl, by simp [wtL, wtP, Rows.uptoBulk]⟩
    ·rename_i hu
     cases hs
     obtain ⟨b, rfl, rfl, hw⟩ := DataW.trod_string hu h
     exact ⟨[.sc (.string b)], ⟨_, _, rfl, ⟨b, rfl, hw⟩, rfl⟩, .one rfl rfl, by simp [wtL, wtP, Rows.uptoBulk]⟩
    ·rename_i e hu
     split at hs
     ·rename_i ks hk
      split at hs
      ·rename_i hc
       obtain ⟨hc, hpos0⟩ := hc
       cases hs
       rcases DataW.trod_slice hu h with ⟨rfl, rfl⟩ | ⟨a, len, cap, elems, rest, m, rfl, rfl, rfl, h1, h2, h3, h4, h5, _, _⟩
       ·exact ⟨[.slc ks.length []], ⟨_, _, rfl, ⟨[], rfl, by simp⟩, rfl⟩, .one rfl (.inl ⟨rfl, rfl⟩), by simp [wtL, wtP, wtR, Rows.uptoBulk]⟩
       ·have hel : ∀ i, i < len → ∃ pds, FitL ks pds ∧ CellsP w (oldS w) pds (a.add (i * ks.length)) ∧ ∀ y, elems[i]? = some y → wtL pds ≤ Rows.uptoBulk y.1 := fun i hi => by
         have hg := h5 i hi
         rw [List.getElem?_eq_getElem (show i < elems.length by omega)] at hg
         rw [Option.bind_eq_some_iff] at hg
         obtain ⟨ds, hd, ht⟩ := hg
         obtain ⟨pds, f1, c1, w1⟩ := open_trod m n e ds _ ks ht hk
         rw [hc] at hd
         refine ⟨pds, f1, c1.at (cells?_get hd).2, fun y hy => ?_⟩
         rw [List.getElem?_eq_getElem (show i < elems.length by omega)] at hy
         cases hy
         exact w1
        classical
        let row : Nat → List PD := fun i => if hi : i < len then Classical.choose (hel i hi) else []
        have hrow : ∀ i (hi : i < len), FitL ks (row i) ∧ CellsP w (oldS w) (row i) (a.add (i * ks.length)) ∧ ∀ y, elems[i]? = some y → wtL (row i) ≤ Rows.uptoBulk y.1 := fun i hi => by
         simp only [row, dif_pos hi]
         exact Classical.choose_spec (hel i hi)
        have hget : ∀ (i : Nat) (x : List PD), ((List.range len).map row)[i]? = some x → i < len ∧ x = row i := fun i x hx => by
         have hlt := (List.getElem?_eq_some_iff.1 hx).1
         simp at hlt
         rw [List.getElem?_map, List.getElem?_range hlt] at hx
         exact ⟨hlt, by simpa using hx.symm⟩
        have hrows : RowsP w (oldS w) ks.length ((List.range len).map row) a := RowsP.of_get _ _ fun i x hx => by
         obtain ⟨hi, rfl⟩ := hget i x hx
         exact ⟨(hrow i hi).1.length, (hrow i hi).2.1⟩
        refine ⟨[.slc ks.length ((List.range len).map row)], ⟨_, _, rfl, ⟨_, rfl, fun x hx => ?_⟩, rfl⟩, .one rfl (.inr ⟨a, cap, by simp, by simpa using h2, h3, fun hne => ?_, hrows⟩), ?_⟩
        ·obtain ⟨i, hi⟩ := List.getElem?_of_mem hx
         obtain ⟨hi', rfl⟩ := hget i x hi
         exact (hrow i hi').1
        ·have hpos : 0 < len := by
          rcases Nat.eq_zero_or_pos len with h0 | h0
          ·subst h0; simp at hne
          ·exact h0
         have hg := h5 0 hpos
         rw [List.getElem?_eq_getElem (show 0 < elems.length by omega), Option.bind_eq_some_iff] at hg
         obtain ⟨ds, hd, _⟩ := hg
         obtain ⟨d1, d2⟩ := cells?_get hd
         rw [hc] at d1
         have h0 := d2 0 _ (List.getElem?_eq_getElem (show 0 < ds.length by rw [d1]; exact hpos0))
         have := cell?_lt h0
         simpa [block_add] using this
        ·simp only [wtL, wtP, Rows.uptoBulk, Nat.add_zero]
         have := wtR_le ((List.range len).map row) (elems.map (·.1)) (by simp [h4]) fun i x d hx hd => by
          obtain ⟨hi, rfl⟩ := hget i x hx
          rw [List.getElem?_map, Option.map_eq_some_iff] at hd
          obtain ⟨y, hy, rfl⟩ := hd
          exact (hrow i hi).2.2 y hy
         omega
      ·cases hs
     ·cases hs
    ·rename_i fs hu
     obtain ⟨xs, m, rfl, rfl, h1, h2, h3⟩ := DataW.trod_struct hu h
     split at hs
     ·rename_i r hr
      split at hs
      ·rename_i hc
       cases hs
       obtain ⟨pds, f1, c1, w1⟩ := open_fields (w := w) (r := DataW.trod enc P w 0 spare held m) (sh := shT P n) (cs := cs) (fun t cs x shs h1 h2 => open_trod m n t cs x shs h1 h2) fs.toList xs 0 shs (by simpa using h2) hr (by omega)
        (fun i f hf => h3 i f (by simpa using hf))
       refine ⟨pds, f1, ?_, by simp only [Rows.uptoBulk]; omega⟩
       rwa [List.drop_zero, List.take_of_length_le (by omega)] at c1
      ·cases hs
     ·cases hs
    ·rename_i len e hu
     split at hs
     ·rename_i ks hk
      split at hs
      ·rename_i hc
       cases hs
       obtain ⟨xs, m, rfl, rfl, h1, h2, h3⟩ := DataW.trod_array hu h
       obtain ⟨hc1, hc2⟩ := hc
       obtain ⟨pds, f1, c1, w1⟩ := open_elems (w := w) (r := DataW.trod enc P w 0 spare held m e) (ks := ks) (cs := cs) (fun cs x h1 => open_trod m n e cs x ks h1 hk) len xs 0 h2 (by omega)
        (fun i hi => by rw [Nat.zero_add, ← hc1]; exact h3 i hi)
       refine ⟨pds, f1, ?_, by simp only [Rows.uptoBulk]; omega⟩
       rwa [List.drop_zero, List.take_of_length_le (by omega)] at c1
      ·cases hs
     ·cases hs
    ·cases hs
end
end Go.Proofs.Ytadnpgkddgbhkaa
