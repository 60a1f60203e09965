import Derived.Test.YtamekpldmplenaaDoorClass
namespace Go.Proofs.YtamekpldmplenaaDoor
open Go.RowKit Go.Shelf

/-- Block q alone has been written, and of it only the cells from lo to hi. -/
structure Mut (q lo hi : Nat) (w w' : World) : Prop where
  os : w'.os = w.os
  tape : w'.tape = w.tape
  output : w'.output = w.output
  size : w.heap.size ≤ w'.heap.size
  block : ∀ k, k < w.heap.size → k ≠ q → w'.heap[k]? = w.heap[k]?
  cell : ∀ j, (j < lo ∨ hi ≤ j) → w'.cell? ⟨q, j, none⟩ = w.cell? ⟨q, j, none⟩
  froz : ∀ j, w'.frozen? ⟨q, j, none⟩ = w.frozen? ⟨q, j, none⟩
theorem Mut.refl (q lo hi : Nat) (w : World) : Mut q lo hi w w := ⟨rfl, rfl, rfl, Nat.le_refl _, fun _ _ _ => rfl, fun _ _ => rfl, fun _ => rfl⟩
theorem Mut.trans {q lo hi : Nat} {a b c : World} (h : Mut q lo hi a b) (k : Mut q lo hi b c) : Mut q lo hi a c :=
  ⟨k.os.trans h.os, k.tape.trans h.tape, k.output.trans h.output, Nat.le_trans h.size k.size,
   fun i hi hq => (k.block i (Nat.lt_of_lt_of_le hi h.size) hq).trans (h.block i hi hq), fun j hj => (k.cell j hj).trans (h.cell j hj), fun j => (k.froz j).trans (h.froz j)⟩
theorem Mut.mono {q lo hi lo' hi' : Nat} {w w' : World} (h : Mut q lo hi w w') (h1 : lo' ≤ lo) (h2 : hi ≤ hi') : Mut q lo' hi' w w' :=
  ⟨h.os, h.tape, h.output, h.size, h.block, fun j hj => h.cell j (by omega), h.froz⟩
theorem Mut.below {q lo hi B : Nat} {w w' : World} (h : Mut q lo hi w w') (hB : B ≤ q) (hs : B ≤ w.heap.size) : Below B w w' :=
  ⟨h.os, h.tape, h.output, h.size, fun k hk => h.block k (by omega) (by omega)⟩
theorem Mut.of_below {q lo hi : Nat} {w w' : World} (h : Below w.heap.size w w') (hq : q < w.heap.size) : Mut q lo hi w w' :=
  ⟨h.os, h.tape, h.output, h.size, fun k hk _ => h.block k hk, fun j _ => h.cell (p := ⟨q, j, none⟩) hq, fun j => h.frozen (p := ⟨q, j, none⟩) hq⟩
theorem Mut.drewN {q lo hi : Nat} {w w' : World} (h : Mut q lo hi w w') (n : Nat) : Mut q lo hi w (w'.drewN n) := ⟨h.os, h.tape, h.output, h.size, h.block, h.cell, h.froz⟩
theorem Mut.setCell {q lo hi : Nat} {w w' : World} (h : Mut q lo hi w w') {j : Nat} (h1 : lo ≤ j) (h2 : j < hi) (v : Value) : Mut q lo hi w (w'.setCell ⟨q, j, none⟩ v) := by
  refine h.trans ⟨rfl, rfl, rfl, by simp [World.setCell], fun k _ hk => Below.heap_setCell _ _ _ _ hk, fun i hi => ?_, fun i => World.frozen?_setCell ..⟩
  have hne : i ≠ j := by omega
  simp only [World.cell?, World.setCell, Array.getElem?_modify]
  cases hb : w'.heap[q]? with
  | none => simp [hb]
  | some o => cases o <;> simp [hb]
              rw [Array.getElem?_setIfInBounds_ne (by omega)]
/-- Cells from off on hold xs, and may be written. -/
structure Holds (w : World) (q off : Nat) (xs : List Int) : Prop where
  cell : ∀ i x, xs[i]? = some x → w.cell? ⟨q, off + i, none⟩ = some (.int .i64 x)
  froz : ∀ i, i < xs.length → w.frozen? ⟨q, off + i, none⟩ = false
theorem Holds.lt {w : World} {q off : Nat} {xs : List Int} (h : Holds w q off xs) {i : Nat} (hi : i < xs.length) : q < w.heap.size :=
  World.block_lt_of_cell? w ⟨q, off + i, none⟩ (h.cell i _ (List.getElem?_eq_getElem hi))
theorem Holds.below {w w' : World} {q off : Nat} {xs : List Int} (h : Holds w q off xs) (hb : Below w.heap.size w w') (hq : q < w.heap.size) : Holds w' q off xs :=
  ⟨fun i x hx => bcel hb (h.cell i x hx), fun i hi => (hb.frozen (p := ⟨q, off + i, none⟩) hq).trans (h.froz i hi)⟩
theorem Holds.drewN {w : World} {q off : Nat} {xs : List Int} (h : Holds w q off xs) (n : Nat) : Holds (w.drewN n) q off xs := ⟨h.cell, h.froz⟩
theorem Holds.set {w : World} {q off : Nat} {xs : List Int} (h : Holds w q off xs) {i : Nat} (hi : i < xs.length) (x : Int) : Holds (w.setCell ⟨q, off + i, none⟩ (.int .i64 x)) q off (xs.set i x) := by
  refine ⟨fun j y hy => ?_, fun j hj => by rw [World.frozen?_setCell]; exact h.froz j (by simpa using hj)⟩
  by_cases e : j = i
  · subst e
    rw [List.getElem?_set_self hi] at hy
    cases hy
    exact World.cell?_setCell_same' _ _ _ (by rw [h.cell j _ (List.getElem?_eq_getElem hi)]; rfl)
  · rw [List.getElem?_set_ne (by omega)] at hy
    have hm : Mut q (off + i) (off + i + 1) w (w.setCell ⟨q, off + i, none⟩ (.int .i64 x)) := (Mut.refl _ _ _ _).setCell (by omega) (by omega) _
    rw [hm.cell (off + j) (by omega)]
    exact h.cell j y hy
theorem Holds.elt {w : World} {q off : Nat} {xs : List Int} (h : Holds w q off xs) {i : Nat} (hi : i < xs.length) : ∃ x, Hid (xs[i]? = some x) ∧ w.cell? ⟨q, off + i, none⟩ = some (.int .i64 x) ∧ w.frozen? ⟨q, off + i, none⟩ = false :=
  ⟨xs[i], List.getElem?_eq_getElem hi, h.cell i _ (List.getElem?_eq_getElem hi), h.froz i hi⟩
end Go.Proofs.YtamekpldmplenaaDoor
