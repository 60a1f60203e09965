import Derived.Test.YtamekpldmplenaaDoorProg
import Derived.KernelRfl
import Derived.WalkKit
import Derived.WalkSpells
import Derived.WalkLawsBesides
import Derived.Deep.QuietTactic
import Derived.BigQuiet
import Derived.BigRegion
import Derived.Lib.Hide
import Derived.Shelf.Abstract
namespace Go.Proofs.YtamekpldmplenaaDoor
open Go.RowKit Go.Shelf

theorem ret_int {k : IntKind} {a b : Int} (h : a = b) : Ending.returned (.int k a) = .returned (.int k b) := by rw [h]
theorem ret_bool {a b : Bool} (h : a = b) : Ending.returned (.bool a) = .returned (.bool b) := by rw [h]
theorem bcell {W w1 : World} (hb : Below W.heap.size W w1) : (∀ b o, b < W.heap.size → w1.cell? ⟨b, o, none⟩ = W.cell? ⟨b, o, none⟩) ∧ (∀ b o, b < W.heap.size → w1.frozen? ⟨b, o, none⟩ = W.frozen? ⟨b, o, none⟩) :=
  ⟨fun b o h => hb.cell (p := ⟨b, o, none⟩) h, fun b o h => hb.frozen (p := ⟨b, o, none⟩) h⟩
theorem bdrewN {B : Nat} {a w : World} (h : Below B a w) (n : Nat) : Below B a (w.drewN n) := ⟨h.os, h.tape, h.output, h.size, h.block⟩
/-- From the same base: first W, then on from W. -/
theorem bthen {w W w1 : World} (h : Below w.heap.size w W) (k : Below W.heap.size W w1) : Below w.heap.size w w1 := h.trans (k.mono h.size)
theorem bcel {W w1 : World} (hb : Below W.heap.size W w1) {b o : Nat} {v : Value} (h : W.cell? ⟨b, o, none⟩ = some v) : w1.cell? ⟨b, o, none⟩ = some v :=
  (hb.cell (p := ⟨b, o, none⟩) (World.block_lt_of_cell? W _ h)).trans h

/-- What lies in a row of k cells an element: the slice value's address A, n elements, read as xs. -/
structure Rd {α : Type} (enc : α → List Value) (k : Nat) (w : World) (A : Option Addr) (n : Nat) (xs : List α) : Prop where
  len : xs.length = n
  le : n ≤ 17592186044416
  cells : 0 < n → ∃ b o, A = some ⟨b, o, none⟩ ∧ ∀ i (h : i < xs.length) j u, (enc xs[i])[j]? = some u → w.cell? ⟨b, o + i * k + j, none⟩ = some u
theorem Rd.below {α : Type} {enc : α → List Value} {k : Nat} {w w1 : World} {A : Option Addr} {n : Nat} {xs : List α} (h : Rd enc k w A n xs) (hb : Below w.heap.size w w1) : Rd enc k w1 A n xs :=
  ⟨h.len, h.le, fun hn => by
    obtain ⟨b, o, e, hc⟩ := h.cells hn
    exact ⟨b, o, e, fun i hi j u hu => bcel hb (hc i hi j u hu)⟩⟩
theorem Rd.nil {α : Type} {enc : α → List Value} {k : Nat} {w : World} {A : Option Addr} : Rd enc k w A 0 ([] : List α) := ⟨rfl, by omega, fun h => absurd h (by omega)⟩

def encI (x : Int) : List Value := [.int .i64 x]
structure Sp where
  lo : Int
  hi : Int
  val : Int
deriving DecidableEq, Inhabited
def encSp (s : Sp) : List Value := [.int .i64 s.lo, .int .i64 s.hi, .int .i64 s.val]
structure Rg where
  lo : Int
  hi : Int
deriving DecidableEq, Inhabited
def encRg (s : Rg) : List Value := [.int .i64 s.lo, .int .i64 s.hi]
abbrev RdI := Rd encI 1
abbrev RdSp := Rd encSp 3
abbrev RdRg := Rd encRg 2
theorem Rd.addr {α : Type} {enc : α → List Value} {k : Nat} {w : World} {A : Option Addr} {n : Nat} {xs : List α} (h : Rd enc k w A n xs) (hn : 0 < n) : ∃ b o, A = some ⟨b, o, none⟩ := by
  obtain ⟨b, o, e, _⟩ := h.cells hn
  exact ⟨b, o, e⟩
theorem RdI.elt {w : World} {b o n i : Nat} {xs : List Int} (h : RdI w (some ⟨b, o, none⟩) n xs) (hi : i < n) :
    ∃ x, Hid (xs[i]? = some x) ∧ w.cell? ⟨b, o + i, none⟩ = some (.int .i64 x) := by
  obtain ⟨b', o', e, hc⟩ := h.cells (by omega)
  cases e
  have hl : i < xs.length := by rw [h.len]; exact hi
  exact ⟨xs[i], List.getElem?_eq_getElem hl, by simpa using hc i hl 0 _ rfl⟩
theorem RdSp.elt {w : World} {b o n i : Nat} {xs : List Sp} (h : RdSp w (some ⟨b, o, none⟩) n xs) (hi : i < n) :
    ∃ lo hi val, Hid (xs[i]? = some ⟨lo, hi, val⟩) ∧ w.cell? ⟨b, o + i * 3, none⟩ = some (.int .i64 lo) ∧ w.cell? ⟨b, o + i * 3 + 1, none⟩ = some (.int .i64 hi) ∧ w.cell? ⟨b, o + i * 3 + 2, none⟩ = some (.int .i64 val) := by
  obtain ⟨b', o', e, hc⟩ := h.cells (by omega)
  cases e
  have hl : i < xs.length := by rw [h.len]; exact hi
  exact ⟨xs[i].lo, xs[i].hi, xs[i].val, List.getElem?_eq_getElem hl, hc i hl 0 _ rfl, hc i hl 1 _ rfl, hc i hl 2 _ rfl⟩
theorem RdRg.elt {w : World} {b o n i : Nat} {xs : List Rg} (h : RdRg w (some ⟨b, o, none⟩) n xs) (hi : i < n) :
    ∃ lo hi, Hid (xs[i]? = some ⟨lo, hi⟩) ∧ w.cell? ⟨b, o + i * 2, none⟩ = some (.int .i64 lo) ∧ w.cell? ⟨b, o + i * 2 + 1, none⟩ = some (.int .i64 hi) := by
  obtain ⟨b', o', e, hc⟩ := h.cells (by omega)
  cases e
  have hl : i < xs.length := by rw [h.len]; exact hi
  exact ⟨xs[i].lo, xs[i].hi, List.getElem?_eq_getElem hl, hc i hl 0 _ rfl, hc i hl 1 _ rfl⟩
theorem Rd.bd {α : Type} {enc : α → List Value} {k : Nat} {w : World} {A : Option Addr} {n : Nat} {xs : List α} (h : Rd enc k w A n xs) : n < 17592186044417 := by have := h.le; omega

/-- The package's four ranges, as they are laid at the start. -/
structure Glob (w : World) : Prop where
  c0 : w.cell? ⟨0, 0, none⟩ = some (.int .i64 4352)
  c1 : w.cell? ⟨0, 1, none⟩ = some (.int .i64 4370)
  c2 : w.cell? ⟨0, 2, none⟩ = some (.int .i64 4449)
  c3 : w.cell? ⟨0, 3, none⟩ = some (.int .i64 4469)
  c4 : w.cell? ⟨0, 4, none⟩ = some (.int .i64 4520)
  c5 : w.cell? ⟨0, 5, none⟩ = some (.int .i64 4546)
  c6 : w.cell? ⟨0, 6, none⟩ = some (.int .i64 44032)
  c7 : w.cell? ⟨0, 7, none⟩ = some (.int .i64 55203)
theorem Glob.below {w w1 : World} (h : Glob w) (hb : Below w.heap.size w w1) : Glob w1 :=
  ⟨bcel hb h.c0, bcel hb h.c1, bcel hb h.c2, bcel hb h.c3, bcel hb h.c4, bcel hb h.c5, bcel hb h.c6, bcel hb h.c7⟩
end Go.Proofs.YtamekpldmplenaaDoor
