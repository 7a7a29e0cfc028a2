/- The program logic, forty-second part: a box's version told as a later one; a box that takes the place of another one; contracts told otherwise. No condition: lemmas of any program. -/
import Derived.Test.YtghkcmgiagodlaaAm41
namespace Go.Proofs.Ytghkcmgiagodlaa
open Go.RowKit
set_option linter.all false
mutual
/-- A box's version is told as a later one. -/
def bumpD (b v w : Nat) : DV → DV
  | .any => .any
  | .d p => .d p
  | .agg cs => .agg (bumpL b v w cs)
  | .tup cs => .tup (bumpL b v w cs)
  | .ref b' ver o => if b' = b ∧ ver = v then .ref b w o else .ref b' ver o
  | .cref cs => .cref cs
  | .view sz b' ver o n => if b' = b ∧ ver = v then .view sz b w o n else .view sz b' ver o n
  | .fn f cs => .fn f (bumpL b v w cs)
def bumpL (b v w : Nat) : List DV → List DV
  | [] => []
  | d :: ds => bumpD b v w d :: bumpL b v w ds
end
theorem ret_turn {k : Nat} {R : DV → Store → Prop} {d : DV} {st st' : Store} {f : DV → DV} (ht : Turn k st st' fun d d' => d' = f d) (h : RetW k R (f d) st') : RetW k R d st := by
  obtain ⟨d', st2, h1, h2⟩ := h
  exact ⟨d', st2, TellsV.trans (TellsV.turn ht rfl) h1, h2⟩
theorem ret_freeze {k : Nat} {R : DV → Store → Prop} {d : DV} {st : Store} (b sz : Nat) (xs : List (List PD)) (bx : Box) (hb : st[b]? = some bx) (hl : bx.live = true) (hkb : k ≤ b) (hcells : bx.cells = rowsD xs) (hsz : ∀ x ∈ xs, x.length = sz) (h : RetW k R (fzD b bx.ver sz xs d) (fzSt b sz xs st)) : RetW k R d st := ret_turn (Turn.freeze b sz xs bx hb hl hkb hcells hsz) h
end Go.Proofs.Ytghkcmgiagodlaa
