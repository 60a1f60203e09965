/- Reading rows, Hangul, ordering.Check and Class, maps as lists. -/
import Derived.Test.YtfeofhinpgodoaaGreatDoorProg
import Derived.KernelRfl
import Derived.WalkKit
import Derived.WalkSpells
import Derived.WalkLawsBesides
import Derived.Deep.QuietTactic
import Derived.BigQuiet
import Derived.BigRegion
import Derived.Lib.Hide
import Derived.Shelf.Abstract
import Derived.Maps.Keyed
import Derived.ChangeKeysEq
import Derived.Laws.StructEq
import Derived.Maps.AppendAt
import Derived.Deep.AppendLies
import Derived.Laws.OwnMore
import Derived.StillTailTactics
namespace Go.Proofs.YtfeofhinpgodoaaGreatDoor
open Go.RowKit Go.Shelf

theorem ret_int {k : IntKind} {a b : Int} (h : a = b) : Ending.returned (.int k a) = .returned (.int k b) := by rw [h]
theorem ret_bool {a b : Bool} (h : a = b) : Ending.returned (.bool a) = .returned (.bool b) := by rw [h]
theorem bcell {W w1 : World} (hb : Below W.heap.size W w1) : (∀ b o, b < W.heap.size → w1.cell? ⟨b, o, none⟩ = W.cell? ⟨b, o, none⟩) ∧ (∀ b o, b < W.heap.size → w1.frozen? ⟨b, o, none⟩ = W.frozen? ⟨b, o, none⟩) :=
  ⟨fun b o h => hb.cell (p := ⟨b, o, none⟩) h, fun b o h => hb.frozen (p := ⟨b, o, none⟩) h⟩
theorem bdrewN {B : Nat} {a w : World} (h : Below B a w) (n : Nat) : Below B a (w.drewN n) := ⟨h.os, h.tape, h.output, h.size, h.block⟩
/-- From the same base: first W, then on from W. -/
theorem bthen {w W w1 : World} (h : Below w.heap.size w W) (k : Below W.heap.size W w1) : Below w.heap.size w w1 := h.trans (k.mono h.size)
theorem bcel {W w1 : World} (hb : Below W.heap.size W w1) {b o : Nat} {v : Value} (h : W.cell? ⟨b, o, none⟩ = some v) : w1.cell? ⟨b, o, none⟩ = some v :=
  (hb.cell (p := ⟨b, o, none⟩) (World.block_lt_of_cell? W _ h)).trans h

/-- What lies in a row of k cells an element: the slice value's address A, n elements, read as xs. -/
structure Rd {α : Type} (enc : α → List Value) (k : Nat) (w : World) (A : Option Addr) (n : Nat) (xs : List α) : Prop where
  len : xs.length = n
  le : n ≤ 17592186044416
  cells : 0 < n → ∃ b o, A = some ⟨b, o, none⟩ ∧ ∀ i (h : i < xs.length) j u, (enc xs[i])[j]? = some u → w.cell? ⟨b, o + i * k + j, none⟩ = some u
theorem Rd.below {α : Type} {enc : α → List Value} {k : Nat} {w w1 : World} {A : Option Addr} {n : Nat} {xs : List α} (h : Rd enc k w A n xs) (hb : Below w.heap.size w w1) : Rd enc k w1 A n xs :=
  ⟨h.len, h.le, fun hn => by
    obtain ⟨b, o, e, hc⟩ := h.cells hn
    exact ⟨b, o, e, fun i hi j u hu => bcel hb (hc i hi j u hu)⟩⟩
theorem Rd.nil {α : Type} {enc : α → List Value} {k : Nat} {w : World} {A : Option Addr} : Rd enc k w A 0 ([] : List α) := ⟨rfl, by omega, fun h => absurd h (by omega)⟩

def encI (x : Int) : List Value := [.int .i64 x]
structure Sp where
  lo : Int
  hi : Int
  val : Int
deriving DecidableEq, Inhabited
def encSp (s : Sp) : List Value := [.int .i64 s.lo, .int .i64 s.hi, .int .i64 s.val]
structure Rg where
  lo : Int
  hi : Int
deriving DecidableEq, Inhabited
def encRg (s : Rg) : List Value := [.int .i64 s.lo, .int .i64 s.hi]
abbrev RdI := Rd encI 1
abbrev RdSp := Rd encSp 3
abbrev RdRg := Rd encRg 2
theorem Rd.addr {α : Type} {enc : α → List Value} {k : Nat} {w : World} {A : Option Addr} {n : Nat} {xs : List α} (h : Rd enc k w A n xs) (hn : 0 < n) : ∃ b o, A = some ⟨b, o, none⟩ := by
  obtain ⟨b, o, e, _⟩ := h.cells hn
  exact ⟨b, o, e⟩
theorem RdI.elt {w : World} {b o n i : Nat} {xs : List Int} (h : RdI w (some ⟨b, o, none⟩) n xs) (hi : i < n) :
    ∃ x, Hid (xs[i]? = some x) ∧ w.cell? ⟨b, o + i, none⟩ = some (.int .i64 x) := by
  obtain ⟨b', o', e, hc⟩ := h.cells (by omega)
  cases e
  have hl : i < xs.length := by rw [h.len]; exact hi
  exact ⟨xs[i], List.getElem?_eq_getElem hl, by simpa using hc i hl 0 _ rfl⟩
theorem RdSp.elt {w : World} {b o n i : Nat} {xs : List Sp} (h : RdSp w (some ⟨b, o, none⟩) n xs) (hi : i < n) :
    ∃ lo hi val, Hid (xs[i]? = some ⟨lo, hi, val⟩) ∧ w.cell? ⟨b, o + i * 3, none⟩ = some (.int .i64 lo) ∧ w.cell? ⟨b, o + i * 3 + 1, none⟩ = some (.int .i64 hi) ∧ w.cell? ⟨b, o + i * 3 + 2, none⟩ = some (.int .i64 val) := by
  obtain ⟨b', o', e, hc⟩ := h.cells (by omega)
  cases e
  have hl : i < xs.length := by rw [h.len]; exact hi
  exact ⟨xs[i].lo, xs[i].hi, xs[i].val, List.getElem?_eq_getElem hl, hc i hl 0 _ rfl, hc i hl 1 _ rfl, hc i hl 2 _ rfl⟩
theorem RdRg.elt {w : World} {b o n i : Nat} {xs : List Rg} (h : RdRg w (some ⟨b, o, none⟩) n xs) (hi : i < n) :
    ∃ lo hi, Hid (xs[i]? = some ⟨lo, hi⟩) ∧ w.cell? ⟨b, o + i * 2, none⟩ = some (.int .i64 lo) ∧ w.cell? ⟨b, o + i * 2 + 1, none⟩ = some (.int .i64 hi) := by
  obtain ⟨b', o', e, hc⟩ := h.cells (by omega)
  cases e
  have hl : i < xs.length := by rw [h.len]; exact hi
  exact ⟨xs[i].lo, xs[i].hi, List.getElem?_eq_getElem hl, hc i hl 0 _ rfl, hc i hl 1 _ rfl⟩
theorem Rd.bd {α : Type} {enc : α → List Value} {k : Nat} {w : World} {A : Option Addr} {n : Nat} {xs : List α} (h : Rd enc k w A n xs) : n < 17592186044417 := by have := h.le; omega

/-- The package's four ranges, as they are laid at the start. -/
structure Glob (w : World) : Prop where
  c0 : w.cell? ⟨0, 0, none⟩ = some (.int .i64 4352)
  c1 : w.cell? ⟨0, 1, none⟩ = some (.int .i64 4370)
  c2 : w.cell? ⟨0, 2, none⟩ = some (.int .i64 4449)
  c3 : w.cell? ⟨0, 3, none⟩ = some (.int .i64 4469)
  c4 : w.cell? ⟨0, 4, none⟩ = some (.int .i64 4520)
  c5 : w.cell? ⟨0, 5, none⟩ = some (.int .i64 4546)
  c6 : w.cell? ⟨0, 6, none⟩ = some (.int .i64 44032)
  c7 : w.cell? ⟨0, 7, none⟩ = some (.int .i64 55203)
theorem Glob.below {w w1 : World} (h : Glob w) (hb : Below w.heap.size w w1) : Glob w1 :=
  ⟨bcel hb h.c0, bcel hb h.c1, bcel hb h.c2, bcel hb h.c3, bcel hb h.c4, bcel hb h.c5, bcel hb h.c6, bcel hb h.c7⟩
end Go.Proofs.YtfeofhinpgodoaaGreatDoor

namespace Go.Proofs.YtfeofhinpgodoaaGreatDoor
open Go.RowKit

def hidx (c f n : Int) : Int := if c < f ∨ f + n ≤ c then -1 else c - f

set_option maxHeartbeats 400000 in
theorem index_any (c f n : Int) (w : World) (h0 : 0 ≤ f) (h1 : 0 ≤ n) (h2 : f + n ≤ 1000000) :
    Calls Tryz.prog 58 #[.int .i64 c, .int .i64 f, .int .i64 n] w fun e w' => e = .returned (.int .i64 (hidx c f n)) ∧ w = w' := by
  by_cases hc : c < f
  · have h : hidx c f n = -1 := by unfold hidx; rw [if_pos (.inl hc)]
    have H := Lib.hid h; clear h
    go_enter Tryz.func58, Tryz.ntmps58
    go_wp2
    go_ret
    exact ⟨ret_int H.out.symm, rfl⟩
  · by_cases hd : f + n ≤ c
    · have h : hidx c f n = -1 := by unfold hidx; rw [if_pos (.inr hd)]
      have H := Lib.hid h; clear h
      go_enter Tryz.func58, Tryz.ntmps58
      go_wp2
      go_ret
      exact ⟨ret_int H.out.symm, rfl⟩
    · have h : hidx c f n = c - f := by unfold hidx; rw [if_neg (by omega)]
      have H := Lib.hid h; clear h
      go_enter Tryz.func58, Tryz.ntmps58
      go_wp2
      go_ret
      exact ⟨ret_int H.out.symm, rfl⟩

def kindF (c : Int) : Int :=
  if 44032 ≤ c ∧ c < 55204 then (if (c - 44032) % 28 = 0 then 4 else 5)
  else if 4352 ≤ c ∧ c < 4371 then 1 else if 4449 ≤ c ∧ c < 4470 then 2 else if 4520 ≤ c ∧ c < 4547 then 3 else 0

set_option maxHeartbeats 400000 in
theorem kind_any (c : Int) (w : World) :
    Calls Tryz.prog 35 #[.int .i64 c] w fun e w' => e = .returned (.int .i64 (kindF c)) ∧ Below w.heap.size w w' := by
  by_cases hs : 44032 ≤ c ∧ c < 55204
  · have hk : hidx c 44032 11172 = c - 44032 := by unfold hidx; rw [if_neg (by omega)]
    obtain ⟨hs1, hs2⟩ := hs
    by_cases hm : (c - 44032) % 28 = 0
    · have h : kindF c = 4 := by unfold kindF; rw [if_pos (by omega), if_pos (by omega)]
      have H := Lib.hid h; clear h
      have hm' := beq_iff_eq.2 hm; clear hm
      go_enter Tryz.func35, Tryz.ntmps35
      go_wp2_with (go_at_call 58; refine (index_any _ _ _ _ (by omega) (by omega) (by omega)).mono ?_; rintro e w' ⟨rfl, rfl⟩; rw [hk])
      go_ret
      exact ⟨ret_int H.out.symm, by repeat (first | exact Below.refl _ _ | refine Below.alloc ?_ (by first | exact Nat.le_refl _ | (simp; done) | (simp; omega)) _ | refine Below.setCell ?_ (by first | exact Nat.le_refl _ | (simp; done) | (simp; omega)) _ | refine Below.drew ?_)⟩
    · have h : kindF c = 5 := by unfold kindF; rw [if_pos (by omega), if_neg (by omega)]
      have H := Lib.hid h; clear h
      have hm' := beq_eq_false_iff_ne.2 hm; clear hm
      go_enter Tryz.func35, Tryz.ntmps35
      go_wp2_with (go_at_call 58; refine (index_any _ _ _ _ (by omega) (by omega) (by omega)).mono ?_; rintro e w' ⟨rfl, rfl⟩; rw [hk])
      go_ret
      exact ⟨ret_int H.out.symm, by repeat (first | exact Below.refl _ _ | refine Below.alloc ?_ (by first | exact Nat.le_refl _ | (simp; done) | (simp; omega)) _ | refine Below.setCell ?_ (by first | exact Nat.le_refl _ | (simp; done) | (simp; omega)) _ | refine Below.drew ?_)⟩
  · have hk : hidx c 44032 11172 = -1 := by unfold hidx; rw [if_pos (by omega)]
    have i0 : ∀ w, (Instr.index 80 (.agg #[.int .i64 4352, .int .i64 19, .int .i64 4449, .int .i64 21, .int .i64 4520, .int .i64 27]) (.int .i64 0)).run Tryz.prog w = .ok (.agg #[.int .i64 4352, .int .i64 19]) w := fun _ => by kernel_rfl
    have i1 : ∀ w, (Instr.index 80 (.agg #[.int .i64 4352, .int .i64 19, .int .i64 4449, .int .i64 21, .int .i64 4520, .int .i64 27]) (.int .i64 1)).run Tryz.prog w = .ok (.agg #[.int .i64 4449, .int .i64 21]) w := fun _ => by kernel_rfl
    have i2 : ∀ w, (Instr.index 80 (.agg #[.int .i64 4352, .int .i64 19, .int .i64 4449, .int .i64 21, .int .i64 4520, .int .i64 27]) (.int .i64 2)).run Tryz.prog w = .ok (.agg #[.int .i64 4520, .int .i64 27]) w := fun _ => by kernel_rfl
    by_cases c1 : 4352 ≤ c ∧ c < 4371
    · have h : kindF c = 1 := by unfold kindF; rw [if_neg (by omega), if_pos (by omega)]
      have H := Lib.hid h; clear h
      have k1 : hidx c 4352 19 = c - 4352 := by unfold hidx; rw [if_neg (by omega)]
      obtain ⟨c1, c1'⟩ := c1
      go_enter Tryz.func35, Tryz.ntmps35
      go_wp2_with (go_at_call 58; refine (index_any _ _ _ _ (by omega) (by omega) (by omega)).mono ?_; rintro e w' ⟨rfl, rfl⟩; first | rw [hk] | rw [k1] | rw [k2] | rw [k3])
      refine wp_loop_rounds 4 ?_; rw [rounds_succ]
      go_wp2_with (go_at_call 58; refine (index_any _ _ _ _ (by omega) (by omega) (by omega)).mono ?_; rintro e w' ⟨rfl, rfl⟩; first | rw [hk] | rw [k1] | rw [k2] | rw [k3])
      go_ret
      exact ⟨ret_int H.out.symm, by repeat (first | exact Below.refl _ _ | refine Below.alloc ?_ (by first | exact Nat.le_refl _ | (simp; done) | (simp; omega)) _ | refine Below.setCell ?_ (by first | exact Nat.le_refl _ | (simp; done) | (simp; omega)) _ | refine Below.drew ?_)⟩
    by_cases c2 : 4449 ≤ c ∧ c < 4470
    · have h : kindF c = 2 := by unfold kindF; rw [if_neg (by omega), if_neg (by omega), if_pos (by omega)]
      have H := Lib.hid h; clear h
      have k1 : hidx c 4352 19 = -1 := by unfold hidx; rw [if_pos (by omega)]
      have k2 : hidx c 4449 21 = c - 4449 := by unfold hidx; rw [if_neg (by omega)]
      obtain ⟨c1, c1'⟩ := c2
      go_enter Tryz.func35, Tryz.ntmps35
      go_wp2_with (go_at_call 58; refine (index_any _ _ _ _ (by omega) (by omega) (by omega)).mono ?_; rintro e w' ⟨rfl, rfl⟩; first | rw [hk] | rw [k1] | rw [k2] | rw [k3])
      refine wp_loop_rounds 4 ?_; rw [rounds_succ]
      go_wp2_with (go_at_call 58; refine (index_any _ _ _ _ (by omega) (by omega) (by omega)).mono ?_; rintro e w' ⟨rfl, rfl⟩; first | rw [hk] | rw [k1] | rw [k2] | rw [k3])
      rw [rounds_succ]
      go_wp2_with (go_at_call 58; refine (index_any _ _ _ _ (by omega) (by omega) (by omega)).mono ?_; rintro e w' ⟨rfl, rfl⟩; first | rw [hk] | rw [k1] | rw [k2] | rw [k3])
      go_ret
      exact ⟨ret_int H.out.symm, by repeat (first | exact Below.refl _ _ | refine Below.alloc ?_ (by first | exact Nat.le_refl _ | (simp; done) | (simp; omega)) _ | refine Below.setCell ?_ (by first | exact Nat.le_refl _ | (simp; done) | (simp; omega)) _ | refine Below.drew ?_)⟩
    by_cases c3 : 4520 ≤ c ∧ c < 4547
    · have h : kindF c = 3 := by unfold kindF; rw [if_neg (by omega), if_neg (by omega), if_neg (by omega), if_pos (by omega)]
      have H := Lib.hid h; clear h
      have k1 : hidx c 4352 19 = -1 := by unfold hidx; rw [if_pos (by omega)]
      have k2 : hidx c 4449 21 = -1 := by unfold hidx; rw [if_pos (by omega)]
      have k3 : hidx c 4520 27 = c - 4520 := by unfold hidx; rw [if_neg (by omega)]
      obtain ⟨c1, c1'⟩ := c3
      go_enter Tryz.func35, Tryz.ntmps35
      go_wp2_with (go_at_call 58; refine (index_any _ _ _ _ (by omega) (by omega) (by omega)).mono ?_; rintro e w' ⟨rfl, rfl⟩; first | rw [hk] | rw [k1] | rw [k2] | rw [k3])
      refine wp_loop_rounds 4 ?_; rw [rounds_succ]
      go_wp2_with (go_at_call 58; refine (index_any _ _ _ _ (by omega) (by omega) (by omega)).mono ?_; rintro e w' ⟨rfl, rfl⟩; first | rw [hk] | rw [k1] | rw [k2] | rw [k3])
      rw [rounds_succ]
      go_wp2_with (go_at_call 58; refine (index_any _ _ _ _ (by omega) (by omega) (by omega)).mono ?_; rintro e w' ⟨rfl, rfl⟩; first | rw [hk] | rw [k1] | rw [k2] | rw [k3])
      rw [rounds_succ]
      go_wp2_with (go_at_call 58; refine (index_any _ _ _ _ (by omega) (by omega) (by omega)).mono ?_; rintro e w' ⟨rfl, rfl⟩; first | rw [hk] | rw [k1] | rw [k2] | rw [k3])
      go_ret
      exact ⟨ret_int H.out.symm, by repeat (first | exact Below.refl _ _ | refine Below.alloc ?_ (by first | exact Nat.le_refl _ | (simp; done) | (simp; omega)) _ | refine Below.setCell ?_ (by first | exact Nat.le_refl _ | (simp; done) | (simp; omega)) _ | refine Below.drew ?_)⟩
    · have h : kindF c = 0 := by unfold kindF; rw [if_neg (by omega), if_neg (by omega), if_neg (by omega), if_neg (by omega)]
      have H := Lib.hid h; clear h
      have k1 : hidx c 4352 19 = -1 := by unfold hidx; rw [if_pos (by omega)]
      have k2 : hidx c 4449 21 = -1 := by unfold hidx; rw [if_pos (by omega)]
      have k3 : hidx c 4520 27 = -1 := by unfold hidx; rw [if_pos (by omega)]
      go_enter Tryz.func35, Tryz.ntmps35
      go_wp2_with (go_at_call 58; refine (index_any _ _ _ _ (by omega) (by omega) (by omega)).mono ?_; rintro e w' ⟨rfl, rfl⟩; first | rw [hk] | rw [k1] | rw [k2] | rw [k3])
      refine wp_loop_rounds 4 ?_; rw [rounds_succ]
      go_wp2_with (go_at_call 58; refine (index_any _ _ _ _ (by omega) (by omega) (by omega)).mono ?_; rintro e w' ⟨rfl, rfl⟩; first | rw [hk] | rw [k1] | rw [k2] | rw [k3])
      rw [rounds_succ]
      go_wp2_with (go_at_call 58; refine (index_any _ _ _ _ (by omega) (by omega) (by omega)).mono ?_; rintro e w' ⟨rfl, rfl⟩; first | rw [hk] | rw [k1] | rw [k2] | rw [k3])
      rw [rounds_succ]
      go_wp2_with (go_at_call 58; refine (index_any _ _ _ _ (by omega) (by omega) (by omega)).mono ?_; rintro e w' ⟨rfl, rfl⟩; first | rw [hk] | rw [k1] | rw [k2] | rw [k3])
      rw [rounds_succ]
      go_wp2_with (go_at_call 58; refine (index_any _ _ _ _ (by omega) (by omega) (by omega)).mono ?_; rintro e w' ⟨rfl, rfl⟩; first | rw [hk] | rw [k1] | rw [k2] | rw [k3])
      go_ret
      exact ⟨ret_int H.out.symm, by repeat (first | exact Below.refl _ _ | refine Below.alloc ?_ (by first | exact Nat.le_refl _ | (simp; done) | (simp; omega)) _ | refine Below.setCell ?_ (by first | exact Nat.le_refl _ | (simp; done) | (simp; omega)) _ | refine Below.drew ?_)⟩
end Go.Proofs.YtfeofhinpgodoaaGreatDoor

namespace Go.Proofs.YtfeofhinpgodoaaGreatDoor
open Go.RowKit

def rgs : List Rg := [⟨4352, 4370⟩, ⟨4449, 4469⟩, ⟨4520, 4546⟩, ⟨44032, 55203⟩]
def meets (s : Sp) (r : Rg) : Bool := decide (s.lo ≤ r.hi ∧ r.lo ≤ s.hi)
def kor (s : Sp) : Bool := rgs.any (meets s)
theorem kor0 (s : Sp) (h : s.lo ≤ 4370) (k : 4352 ≤ s.hi) : true = kor s := by simp [kor, rgs, meets, h, k]
theorem kor1 (s : Sp) (h : s.lo ≤ 4469) (k : 4449 ≤ s.hi) : true = kor s := by simp [kor, rgs, meets, h, k]
theorem kor2 (s : Sp) (h : s.lo ≤ 4546) (k : 4520 ≤ s.hi) : true = kor s := by simp [kor, rgs, meets, h, k]
theorem kor3 (s : Sp) (h : s.lo ≤ 55203) (k : 44032 ≤ s.hi) : true = kor s := by simp [kor, rgs, meets, h, k]
theorem kor_no (s : Sp) (h : ∀ j (h : j < 4), j < 4 → meets s (rgs[j]'h) = false) : kor s = false := by
  have h0 := h 0 (by omega) (by omega); have h1 := h 1 (by omega) (by omega); have h2 := h 2 (by omega) (by omega); have h3 := h 3 (by omega) (by omega)
  simp only [kor, rgs, List.any_cons, List.any_nil]
  simp only [rgs] at h0 h1 h2 h3
  rw [show meets s ⟨4352, 4370⟩ = false from h0, show meets s ⟨4449, 4469⟩ = false from h1, show meets s ⟨4520, 4546⟩ = false from h2, show meets s ⟨44032, 55203⟩ = false from h3]; rfl
theorem meets_step (s : Sp) (k : Nat) (hk : k < 4) (H : Hid (∀ j (h : j < 4), j < k → meets s (rgs[j]'h) = false)) (h : meets s (rgs[k]'hk) = false) : Hid (∀ j (h : j < 4), j < k + 1 → meets s (rgs[j]'h) = false) := by
  intro j hj hjk
  by_cases e : j = k
  · subst e; exact h
  · exact H.out j hj (by omega)

theorem kind_ne_any (c : Int) (w : World) (h : 4352 ≤ c ∧ c ≤ 4370 ∨ 4449 ≤ c ∧ c ≤ 4469 ∨ 4520 ≤ c ∧ c ≤ 4546 ∨ 44032 ≤ c ∧ c ≤ 55203) :
    Calls Tryz.prog 35 #[.int .i64 c] w fun e w' => ∃ q : Int, (q != 0) = true ∧ e = .returned (.int .i64 q) ∧ Below w.heap.size w w' :=
  (kind_any c w).mono fun e w' ⟨he, hb⟩ => ⟨kindF c, by rw [bne_iff_ne]; unfold kindF; (repeat' split) <;> omega, he, hb⟩

set_option maxHeartbeats 1000000 in
theorem korean_any (s : Sp) (hok : s.lo ≤ s.hi) (w : World) (hG : Glob w) :
    Calls Tryz.prog 108 #[.agg #[.int .i64 s.lo, .int .i64 s.hi, .int .i64 s.val]] w fun e w' => e = .returned (.bool (kor s)) ∧ Below w.heap.size w w' := by
  obtain ⟨lo, hi, val⟩ := s
  replace hok : lo ≤ hi := hok
  obtain ⟨g0, g1, g2, g3, g4, g5, g6, g7⟩ := hG
  have hGs := World.block_lt_of_cell? w _ g0
  have i0 : ∀ w, (Instr.index 154 (.agg #[.int .i64 4352, .int .i64 4370, .int .i64 4449, .int .i64 4469, .int .i64 4520, .int .i64 4546, .int .i64 44032, .int .i64 55203]) (.int .i64 0)).run Tryz.prog w = .ok (.agg #[.int .i64 4352, .int .i64 4370]) w := fun _ => by kernel_rfl
  have i1 : ∀ w, (Instr.index 154 (.agg #[.int .i64 4352, .int .i64 4370, .int .i64 4449, .int .i64 4469, .int .i64 4520, .int .i64 4546, .int .i64 44032, .int .i64 55203]) (.int .i64 1)).run Tryz.prog w = .ok (.agg #[.int .i64 4449, .int .i64 4469]) w := fun _ => by kernel_rfl
  have i2 : ∀ w, (Instr.index 154 (.agg #[.int .i64 4352, .int .i64 4370, .int .i64 4449, .int .i64 4469, .int .i64 4520, .int .i64 4546, .int .i64 44032, .int .i64 55203]) (.int .i64 2)).run Tryz.prog w = .ok (.agg #[.int .i64 4520, .int .i64 4546]) w := fun _ => by kernel_rfl
  have i3 : ∀ w, (Instr.index 154 (.agg #[.int .i64 4352, .int .i64 4370, .int .i64 4449, .int .i64 4469, .int .i64 4520, .int .i64 4546, .int .i64 44032, .int .i64 55203]) (.int .i64 3)).run Tryz.prog w = .ok (.agg #[.int .i64 44032, .int .i64 55203]) w := fun _ => by kernel_rfl
  go_enter Tryz.func108, Tryz.ntmps108
  go_wp2_with fail
  go_loopw [8] (fun i wr => ∃ k : Nat, k ≤ 4 ∧ i = .int .i64 k ∧ Hid (∀ j (h : j < 4), j < k → meets ⟨lo, hi, val⟩ (rgs[j]'h) = false) ∧ wr.cell? ⟨w.heap.size, 0, none⟩ = some (.int .i64 lo) ∧ wr.cell? ⟨w.heap.size, 1, none⟩ = some (.int .i64 hi) ∧ Below w.heap.size w wr ∧ w.heap.size < wr.heap.size)
    (fun i _ => 4 - (intOf i).toNat)
  case atStart => exact ⟨0, by omega, rfl, fun j h hk => absurd hk (by omega), by simp, by simp, (Below.refl _ _).alloc (Nat.le_refl _) _, by simp⟩
  case round =>
    obtain ⟨k, hk, rfl, HJ, hlo, hhi, hB, hz⟩ := hrel
    by_cases hk4 : k < 4
    · have hk' : k = 0 ∨ k = 1 ∨ k = 2 ∨ k = 3 := by omega
      rcases hk' with rfl | rfl | rfl | rfl
      · go_wp2_with fail
        go_quiet (fail)
        go_wp2_with (go_at_call 35; refine (kind_ne_any _ _ (by omega)).mono ?_; rintro e w1 ⟨q, hq, rfl, hb⟩)
        all_goals first
          | (go_ret; exact ⟨ret_bool (kor0 ⟨lo, hi, val⟩ (by dsimp only; omega) (by dsimp only; omega)), bthen (bdrewN (hB.alloc hB.size _) _) hb⟩)
          | (go_roundw
             case rel => exact ⟨1, by omega, rfl, meets_step ⟨lo, hi, val⟩ 0 (by omega) HJ (by simp only [meets, rgs]; exact decide_eq_false (by dsimp; omega)), by go_simp, by go_simp, bdrewN (hB.alloc hB.size _) _, by simp; omega⟩
             case measure => simp [intOf])
      · go_wp2_with fail
        go_quiet (fail)
        go_wp2_with (go_at_call 35; refine (kind_ne_any _ _ (by omega)).mono ?_; rintro e w1 ⟨q, hq, rfl, hb⟩)
        all_goals first
          | (go_ret; exact ⟨ret_bool (kor1 ⟨lo, hi, val⟩ (by dsimp only; omega) (by dsimp only; omega)), bthen (bdrewN (hB.alloc hB.size _) _) hb⟩)
          | (go_roundw
             case rel => exact ⟨2, by omega, rfl, meets_step ⟨lo, hi, val⟩ 1 (by omega) HJ (by simp only [meets, rgs]; exact decide_eq_false (by dsimp; omega)), by go_simp, by go_simp, bdrewN (hB.alloc hB.size _) _, by simp; omega⟩
             case measure => simp [intOf])
      · go_wp2_with fail
        go_quiet (fail)
        go_wp2_with (go_at_call 35; refine (kind_ne_any _ _ (by omega)).mono ?_; rintro e w1 ⟨q, hq, rfl, hb⟩)
        all_goals first
          | (go_ret; exact ⟨ret_bool (kor2 ⟨lo, hi, val⟩ (by dsimp only; omega) (by dsimp only; omega)), bthen (bdrewN (hB.alloc hB.size _) _) hb⟩)
          | (go_roundw
             case rel => exact ⟨3, by omega, rfl, meets_step ⟨lo, hi, val⟩ 2 (by omega) HJ (by simp only [meets, rgs]; exact decide_eq_false (by dsimp; omega)), by go_simp, by go_simp, bdrewN (hB.alloc hB.size _) _, by simp; omega⟩
             case measure => simp [intOf])
      · go_wp2_with fail
        go_quiet (fail)
        go_wp2_with (go_at_call 35; refine (kind_ne_any _ _ (by omega)).mono ?_; rintro e w1 ⟨q, hq, rfl, hb⟩)
        all_goals first
          | (go_ret; exact ⟨ret_bool (kor3 ⟨lo, hi, val⟩ (by dsimp only; omega) (by dsimp only; omega)), bthen (bdrewN (hB.alloc hB.size _) _) hb⟩)
          | (go_roundw
             case rel => exact ⟨4, by omega, rfl, meets_step ⟨lo, hi, val⟩ 3 (by omega) HJ (by simp only [meets, rgs]; exact decide_eq_false (by dsimp; omega)), by go_simp, by go_simp, bdrewN (hB.alloc hB.size _) _, by simp; omega⟩
             case measure => simp [intOf])
    · have e : k = 4 := by omega
      subst e
      have h : kor ⟨lo, hi, val⟩ = false := kor_no _ HJ.out
      have H := Lib.hid h; clear h
      go_wp2
      go_ret
      exact ⟨ret_bool H.out.symm, hB⟩
end Go.Proofs.YtfeofhinpgodoaaGreatDoor

namespace Go.Proofs.YtfeofhinpgodoaaGreatDoor
open Go.RowKit

def bad1 (s : Sp) : Bool := decide (s.lo < 0 ∨ s.hi < s.lo ∨ 1114111 < s.hi ∨ s.val < 1 ∨ 254 < s.val)
def bad2 (a b : Sp) : Bool := decide (b.lo ≤ a.hi ∨ (a.hi + 1 = b.lo ∧ a.val = b.val))
def adj : List Sp → Bool
  | a :: b :: t => bad2 a b || adj (b :: t)
  | _ => false
def chk (l : List Sp) : Int := if l.any bad1 = true then 1 else if adj l = true then 4 else if l.any kor = true then 11 else 0
theorem adj_true : ∀ (l : List Sp) (i : Nat) (a b : Sp), l[i]? = some a → l[i + 1]? = some b → bad2 a b = true → adj l = true
  | [], i, a, b, h, _, _ => by simp at h
  | [x], i, a, b, _, h, _ => by simp at h
  | x :: y :: t, i, a, b, h, k, hb => by
    cases i with
    | zero => simp at h k; subst h; subst k; simp [adj, hb]
    | succ i =>
      have := adj_true (y :: t) i a b (by simpa using h) (by simpa using k) hb
      simp [adj, this]
theorem adj_false : ∀ (l : List Sp), (∀ (i : Nat) (a b : Sp), l[i]? = some a → l[i + 1]? = some b → bad2 a b = false) → adj l = false
  | [], _ => rfl
  | [x], _ => rfl
  | x :: y :: t, h => by
    have h0 := h 0 x y rfl rfl
    have := adj_false (y :: t) (fun i a b ha hb => h (i + 1) a b (by simpa using ha) (by simpa using hb))
    simp [adj, h0, this]
theorem any_at {p : Sp → Bool} {l : List Sp} {i : Nat} {a : Sp} (h : l[i]? = some a) (hp : p a = true) : l.any p = true := List.any_eq_true.2 ⟨a, List.mem_of_getElem? h, hp⟩
theorem any_no {p : Sp → Bool} {l : List Sp} (h : ∀ (i : Nat) (a : Sp), l[i]? = some a → p a = false) : l.any p = false := by
  rw [List.any_eq_false]
  intro a ha
  obtain ⟨i, hi⟩ := List.mem_iff_getElem?.1 ha
  simp [h i a hi]
theorem upto_step {P : Sp → Prop} {l : List Sp} {k : Nat} {a : Sp} (H : Hid (∀ (i : Nat) (s : Sp), i < k → l[i]? = some s → P s)) (ha : Hid (l[k]? = some a)) (hp : P a) : Hid (∀ (i : Nat) (s : Sp), i < k + 1 → l[i]? = some s → P s) := by
  intro i s hi hs
  by_cases e : i = k
  · subst e; rw [ha.out] at hs; cases hs; exact hp
  · exact H.out i s (by omega) hs

set_option maxHeartbeats 400000 in
theorem idx_kor (A : Option Addr) (n c : Nat) (l : List Sp) (w : World) (hR : RdSp w A n l) (hG : Glob w) (hok : ∀ (i : Nat) (s : Sp), l[i]? = some s → s.lo ≤ s.hi) :
    Calls Tryz.prog 138 #[.slice A n c, .func (.func 108) #[] #[]] w fun e w' => ∃ r : Int, decide (0 ≤ r) = l.any kor ∧ e = .returned (.int .i64 r) ∧ Below w.heap.size w w' := by
  have hn := hR.bd
  have hlen := Lib.hid hR.len
  go_enter Tryz.func138, Tryz.ntmps138
  go_wp2_with fail
  go_loopw [8] (fun i wr => ∃ k : Nat, k ≤ n ∧ i = .int .i64 k ∧ Hid (∀ (i : Nat) (s : Sp), i < k → l[i]? = some s → kor s = false) ∧ Below w.heap.size w wr)
    (fun i _ => n - (intOf i).toNat)
  case atStart => exact ⟨0, by omega, rfl, fun j h hk => absurd hk (by omega), Below.refl _ _⟩
  case round =>
    obtain ⟨k, hk, rfl, HJ, hB⟩ := hrel
    by_cases hlt : k < n
    · obtain ⟨b, o, rfl⟩ := hR.addr (by omega)
      obtain ⟨lo, hi, val, hs, c0, c1, c2⟩ := RdSp.elt (hR.below hB) hlt
      have hl : lo ≤ hi := hok k _ hs.out
      cases hkor : kor ⟨lo, hi, val⟩ with
      | true =>
        have hany := Lib.hid (any_at hs.out hkor)
        go_wp2_with (go_at_call 108; refine (korean_any ⟨lo, hi, val⟩ hl _ (hG.below hB)).mono ?_; rintro e w1 ⟨rfl, hb⟩; rw [hkor])
        go_ret
        exact ⟨k, by rw [hany.out]; simp, rfl, bthen hB hb⟩
      | false =>
        go_wp2_with (go_at_call 108; refine (korean_any ⟨lo, hi, val⟩ hl _ (hG.below hB)).mono ?_; rintro e w1 ⟨rfl, hb⟩; rw [hkor])
        go_roundw
        case rel => exact ⟨k + 1, by omega, by go_num, upto_step HJ hs hkor, bthen hB hb⟩
        case measure => simp [intOf]; omega
    · have hany := Lib.hid (any_no (p := kor) (l := l) fun i s h => HJ.out i s (by have := (List.getElem?_eq_some_iff.1 h).1; rw [hlen.out] at this; omega) h)
      go_wp2_with fail
      go_ret
      exact ⟨-1, by rw [hany.out]; rfl, rfl, hB⟩

set_option maxHeartbeats 400000 in
theorem has_kor (A : Option Addr) (n c : Nat) (l : List Sp) (w : World) (hR : RdSp w A n l) (hG : Glob w) (hok : ∀ (i : Nat) (s : Sp), l[i]? = some s → s.lo ≤ s.hi) :
    Calls Tryz.prog 107 #[.slice A n c, .func (.func 108) #[] #[]] w fun e w' => e = .returned (.bool (l.any kor)) ∧ Below w.heap.size w w' := by
  have HR := Lib.hid hR; have HG := Lib.hid hG; have HO := Lib.hid hok
  clear hR hG hok
  go_enter Tryz.func107, Tryz.ntmps107
  go_wp2_with (go_at_call 138; refine (idx_kor _ _ _ _ _ HR.out HG.out HO.out).mono ?_; rintro e w1 ⟨r, hr, rfl, hb⟩; have Hr := Lib.hid hr; clear hr)
  go_ret
  exact ⟨ret_bool (by rw [← Hr.out]), hb⟩
end Go.Proofs.YtfeofhinpgodoaaGreatDoor

namespace Go.Proofs.YtfeofhinpgodoaaGreatDoor
open Go.RowKit

theorem bad1_true {lo hi val : Int} (h : lo < 0 ∨ hi < lo ∨ 1114111 < hi ∨ val < 1 ∨ 254 < val) : bad1 ⟨lo, hi, val⟩ = true := decide_eq_true h
theorem bad1_false {lo hi val : Int} (h : ¬ (lo < 0 ∨ hi < lo ∨ 1114111 < hi ∨ val < 1 ∨ 254 < val)) : bad1 ⟨lo, hi, val⟩ = false := decide_eq_false h
theorem chk_1 {l : List Sp} {i : Nat} {s : Sp} (hs : l[i]? = some s) (h : bad1 s = true) : chk l = 1 := by unfold chk; rw [if_pos (any_at hs h)]
theorem good1 {l : List Sp} (H : l.any bad1 = false) {i : Nat} {lo hi val : Int} (hs : l[i]? = some ⟨lo, hi, val⟩) : 0 ≤ lo ∧ lo ≤ hi ∧ hi ≤ 1114111 ∧ 1 ≤ val ∧ val ≤ 254 := by
  have := List.any_eq_false.1 H _ (List.mem_of_getElem? hs)
  simp [bad1] at this
  omega

theorem bad2_true {lo hi val lo' hi' val' : Int} (h : lo' ≤ hi ∨ (hi + 1 = lo' ∧ val = val')) : bad2 ⟨lo, hi, val⟩ ⟨lo', hi', val'⟩ = true := decide_eq_true h
theorem bad2_false {lo hi val lo' hi' val' : Int} (h : ¬ (lo' ≤ hi ∨ (hi + 1 = lo' ∧ val = val'))) : bad2 ⟨lo, hi, val⟩ ⟨lo', hi', val'⟩ = false := decide_eq_false h
theorem chk_4 {l : List Sp} (H : l.any bad1 = false) {i : Nat} {a b : Sp} (ha : l[i]? = some a) (hb : l[i + 1]? = some b) (h : bad2 a b = true) : chk l = 4 := by
  unfold chk; rw [if_neg (by rw [H]; decide), if_pos (adj_true l i a b ha hb h)]
theorem upto2_step {l : List Sp} {m : Nat} {x y : Sp} (H : Hid (∀ (i : Nat) (a b : Sp), i < m → l[i]? = some a → l[i + 1]? = some b → bad2 a b = false)) (hx : Hid (l[m]? = some x)) (hy : Hid (l[m + 1]? = some y)) (hp : bad2 x y = false) :
    Hid (∀ (i : Nat) (a b : Sp), i < m + 1 → l[i]? = some a → l[i + 1]? = some b → bad2 a b = false) := by
  intro i a b hi ha hb
  by_cases e : i = m
  · subst e; rw [hx.out] at ha; rw [hy.out] at hb; cases ha; cases hb; exact hp
  · exact H.out i a b (by omega) ha hb

set_option maxHeartbeats 2000000 in
theorem check_any (A : Option Addr) (n c : Nat) (l : List Sp) (w : World) (hR : RdSp w A n l) (hG : Glob w) :
    Calls Tryz.prog 76 #[.slice A n c] w fun e w' => e = .returned (.int .i64 (chk l)) ∧ Below w.heap.size w w' := by
  have hn := hR.bd
  have hlen := Lib.hid hR.len
  have HR := Lib.hid hR; have HG := Lib.hid hG
  clear hR hG
  go_enter Tryz.func76, Tryz.ntmps76
  go_wp2_with fail
  go_loopw [10] (fun i wr => ∃ k : Nat, k ≤ n ∧ i = .int .i64 k ∧ Hid (∀ (i : Nat) (s : Sp), i < k → l[i]? = some s → bad1 s = false) ∧ Below w.heap.size w wr)
    (fun i _ => n - (intOf i).toNat)
  case atStart => exact ⟨0, by omega, rfl, fun j h hk => absurd hk (by omega), Below.refl _ _⟩
  case round =>
    obtain ⟨k, hk, rfl, HJ, hB⟩ := hrel
    have HB := Lib.hid hB
    by_cases hlt : k < n
    · obtain ⟨b, o, rfl⟩ := HR.out.addr (by omega)
      obtain ⟨lo, hi, val, hs, c0, c1, c2⟩ := RdSp.elt (HR.out.below hB) hlt
      clear hB
      go_wp2_with fail
      all_goals first
        | (go_ret; exact ⟨ret_int (chk_1 hs.out (bad1_true (by omega))).symm, HB.out.alloc HB.out.size _⟩)
        | (go_roundw
           case rel => exact ⟨k + 1, by omega, by go_num, upto_step HJ hs (bad1_false (by omega)), HB.out.alloc HB.out.size _⟩
           case measure => simp [intOf]; omega)
    · have hg := Lib.hid (any_no (p := bad1) (l := l) fun i s h => HJ.out i s (by have := (List.getElem?_eq_some_iff.1 h).1; rw [hlen.out] at this; omega) h)
      clear hB
      go_wp2_with fail
      go_loopw [5] (fun i wr => ∃ m : Nat, m + 1 ≤ n + 1 ∧ i = .int .i64 ((m : Int) + 1) ∧ Hid (∀ (i : Nat) (a b : Sp), i < m → l[i]? = some a → l[i + 1]? = some b → bad2 a b = false) ∧ Below w.heap.size w wr)
        (fun i _ => n + 1 - (intOf i).toNat)
      case atStart => exact ⟨0, by omega, by go_num, fun j a b hk => absurd hk (by omega), HB.out⟩
      case round =>
        obtain ⟨m, hm, rfl, HP, hB⟩ := hrel
        clear HB
        have HB := Lib.hid hB
        by_cases hlt : m + 1 < n
        · obtain ⟨b, o, rfl⟩ := HR.out.addr (by omega)
          obtain ⟨lo, hi, val, hs, c0, c1, c2⟩ := RdSp.elt (HR.out.below hB) (show m < n by omega)
          obtain ⟨lo', hi', val', hs', c0', c1', c2'⟩ := RdSp.elt (HR.out.below hB) hlt
          have hgd := good1 hg.out hs.out
          have hgd' := good1 hg.out hs'.out
          obtain ⟨e1, e2, e3, e4, e5⟩ := hgd
          obtain ⟨e1', e2', e3', e4', e5'⟩ := hgd'
          clear hB
          have hbs : b < wr.heap.size := World.block_lt_of_cell? wr _ c0
          have hbs' : b < wr.heap.size + 1 := by omega
          have hlt' : (m : Int) + 1 < (n : Int) := by omega
          go_wp2_with fail
          go_region
          all_goals go_wp2_with fail
          all_goals first
            | (go_ret; exact ⟨ret_int (chk_4 hg.out hs.out hs'.out (bad2_true (by omega))).symm, ((HB.out.alloc HB.out.size _).alloc (by have := HB.out.size; simp; omega) _).drew⟩)
            | (have hx : lo' ≤ hi ∨ (val == val') = true := by assumption
               rw [beq_iff_eq] at hx
               go_ret; exact ⟨ret_int (chk_4 hg.out hs.out hs'.out (bad2_true (by omega))).symm, ((HB.out.alloc HB.out.size _).alloc (by have := HB.out.size; simp; omega) _).drew⟩)
            | (go_roundw
               case rel => exact ⟨m + 1, by omega, by go_num, upto2_step HP hs hs' (bad2_false (by omega)), ((HB.out.alloc HB.out.size _).alloc (by have := HB.out.size; simp; omega) _).drew⟩
               case measure => simp [intOf]; omega)
            | (have hx : hi < lo' ∧ (val == val') = false := by assumption
               rw [beq_eq_false_iff_ne] at hx
               go_roundw
               case rel => exact ⟨m + 1, by omega, by go_num, upto2_step HP hs hs' (bad2_false (by omega)), ((HB.out.alloc HB.out.size _).alloc (by have := HB.out.size; simp; omega) _).drew⟩
               case measure => simp [intOf]; omega)
        · have ha := Lib.hid (adj_false l fun i a b h k => HP.out i a b (by have := (List.getElem?_eq_some_iff.1 k).1; rw [hlen.out] at this; omega) h k)
          have hok := Lib.hid (show ∀ (i : Nat) (s : Sp), l[i]? = some s → s.lo ≤ s.hi from fun i ⟨lo, hi, val⟩ h => (good1 hg.out h).2.1)
          have hlt' : ¬ (m : Int) + 1 < (n : Int) := by omega
          clear hB
          cases hk : l.any kor with
          | true =>
            have hf := Lib.hid (show chk l = 11 by unfold chk; rw [if_neg (by rw [hg.out]; decide), if_neg (by rw [ha.out]; decide), if_pos hk])
            go_wp2_with (go_at_call 107; refine (has_kor _ _ _ _ _ (HR.out.below HB.out) (HG.out.below HB.out) hok.out).mono ?_; rintro e w1 ⟨rfl, hb⟩; rw [hk])
            go_ret
            exact ⟨ret_int hf.out.symm, bthen HB.out hb⟩
          | false =>
            have hf := Lib.hid (show chk l = 0 by unfold chk; rw [if_neg (by rw [hg.out]; decide), if_neg (by rw [ha.out]; decide), if_neg (by rw [hk]; decide)])
            go_wp2_with (go_at_call 107; refine (has_kor _ _ _ _ _ (HR.out.below HB.out) (HG.out.below HB.out) hok.out).mono ?_; rintro e w1 ⟨rfl, hb⟩; rw [hk])
            go_ret
            exact ⟨ret_int hf.out.symm, bthen HB.out hb⟩
end Go.Proofs.YtfeofhinpgodoaaGreatDoor

namespace Go.Proofs.YtfeofhinpgodoaaGreatDoor
open Go.RowKit

set_option maxHeartbeats 400000 in
theorem hi_any (b o n c B1 B2 : Nat) (k : Nat) (x hi : Int) (w : World) (h1 : k < n)
   (hc : w.cell? ⟨B1, 0, none⟩ = some (.slice (some ⟨b, o, none⟩) n c)) (hx : w.cell? ⟨B2, 0, none⟩ = some (.int .i64 x))
   (hcell : w.cell? ⟨b, o + k * 3 + 1, none⟩ = some (.int .i64 hi)) :
    Calls Tryz.prog 96 #[.int .i64 k, .pointer (some ⟨B1, 0, none⟩), .pointer (some ⟨B2, 0, none⟩)] w fun e w' => e = .returned (.bool (decide (x ≤ hi))) ∧ Below w.heap.size w w' := by
  have h1' : (k : Int) < (n : Int) := by omega
  go_enter Tryz.func96, Tryz.ntmps96
  go_wp2
  go_quiet (fail)
  go_wp2
  go_ret
  exact ⟨rfl, bdrewN (Below.refl _ _) _⟩

theorem low_step {l : List Sp} {m : Nat} {lo hi val x : Int} (hs : Hid (l[m]? = some ⟨lo, hi, val⟩)) (hx : hi < x) : Hid (∀ (q : Nat) (s : Sp), q + 1 = m + 1 → l[q]? = some s → s.hi < x) := by
  intro q s h k
  obtain rfl : q = m := by omega
  rw [hs.out] at k; cases k; show hi < x; omega
set_option maxHeartbeats 1000000 in
theorem search_any (A : Option Addr) (n cp B1 B2 : Nat) (x : Int) (l : List Sp) (w : World) (hR : RdSp w A n l)
   (hc : w.cell? ⟨B1, 0, none⟩ = some (.slice A n cp)) (hx : w.cell? ⟨B2, 0, none⟩ = some (.int .i64 x)) :
    Calls Tryz.prog 95 #[.int .i64 n, .func (.func 96) #[] #[.pointer (some ⟨B1, 0, none⟩), .pointer (some ⟨B2, 0, none⟩)]] w fun e w' =>
      ∃ r : Nat, (r ≤ n ∧ (∀ (i : Nat) (s : Sp), i + 1 = r → l[i]? = some s → s.hi < x) ∧ (∀ s, l[r]? = some s → x ≤ s.hi)) ∧ e = .returned (.int .i64 r) ∧ Below w.heap.size w w' := by
  have hn := hR.bd
  have HR := Lib.hid hR
  have HC := Lib.hid hc; have HX := Lib.hid hx
  have hlen := Lib.hid hR.len
  clear hR hc hx
  go_enter Tryz.func95, Tryz.ntmps95
  go_wp2_with fail
  go_loopw [5, 6] (fun u v wr => ∃ i j : Nat, i ≤ j ∧ j ≤ n ∧ u = .int .i64 i ∧ v = .int .i64 j ∧ Hid (∀ (q : Nat) (s : Sp), q + 1 = i → l[q]? = some s → s.hi < x) ∧ Hid (∀ s, l[j]? = some s → x ≤ s.hi) ∧ Below w.heap.size w wr)
    (fun u v _ => (intOf v - intOf u).toNat)
  case atStart => exact ⟨0, n, by omega, by omega, rfl, rfl, fun q s h => absurd h (by omega), fun s h => by have := (List.getElem?_eq_some_iff.1 h).1; rw [hlen.out] at this; omega, Below.refl _ _⟩
  case round =>
    obtain ⟨i, j, hij, hjn, rfl, rfl, HL, HU, hB⟩ := hrel
    by_cases hlt : i < j
    · obtain ⟨m, hm⟩ : ∃ m : Nat, m = (i + j) / 2 := ⟨_, rfl⟩
      have Hm := Lib.hid (show ((i : Int) + (j : Int)) / 2 = (m : Int) by omega)
      have him : i ≤ m := by omega
      have hmj : m < j := by omega
      clear hm
      have hmn : m < n := by omega
      obtain ⟨b, o, rfl⟩ := HR.out.addr (by omega)
      obtain ⟨lo, hi, val, hs, c0, c1, c2⟩ := RdSp.elt (HR.out.below hB) hmn
      have HC1 := Lib.hid c1
      have HB := Lib.hid hB
      clear c0 c1 c2 hB
      by_cases hx : x ≤ hi
      · have hd := decide_eq_true hx
        go_wp2_with (go_at_call 96; rw [Hm.out]; refine (hi_any b o n cp B1 B2 m x hi _ hmn (bcel HB.out HC.out) (bcel HB.out HX.out) HC1.out).mono ?_; rintro e w1 ⟨rfl, hb⟩; rw [hd])
        go_roundw
        case rel => exact ⟨i, m, by omega, by omega, rfl, rfl, HL, (fun s h => by rw [hs.out] at h; cases h; exact hx), bthen HB.out hb⟩
        case measure => simp [intOf]; omega
      · have hd := decide_eq_false hx
        go_wp2_with (go_at_call 96; rw [Hm.out]; refine (hi_any b o n cp B1 B2 m x hi _ hmn (bcel HB.out HC.out) (bcel HB.out HX.out) HC1.out).mono ?_; rintro e w1 ⟨rfl, hb⟩; rw [hd])
        go_roundw
        case rel => exact ⟨m + 1, j, by omega, by omega, by go_num, rfl, low_step hs hx, HU, bthen HB.out hb⟩
        case measure => simp [intOf]; omega
    · have e : i = j := by omega
      subst e
      go_wp2_with fail
      go_ret
      exact ⟨i, ⟨by omega, HL.out, HU.out⟩, rfl, hB⟩

/-! The class of a number. -/
def cls (l : List Sp) (c : Int) : Int := if chk l = 0 then (match l.find? (fun s => decide (s.lo ≤ c ∧ c ≤ s.hi)) with | some s => s.val | none => 0) else 0
theorem chk_zero {l : List Sp} (h : chk l = 0) : l.any bad1 = false ∧ adj l = false ∧ l.any kor = false := by
  unfold chk at h
  by_cases h1 : l.any bad1 = true
  · rw [if_pos h1] at h; cases h
  · by_cases h2 : adj l = true
    · rw [if_neg h1, if_pos h2] at h; cases h
    · by_cases h3 : l.any kor = true
      · rw [if_neg h1, if_neg h2, if_pos h3] at h; cases h
      · exact ⟨by simpa using h1, by simpa using h2, by simpa using h3⟩
theorem adj_of_false : ∀ (l : List Sp) (i : Nat) (a b : Sp), adj l = false → l[i]? = some a → l[i + 1]? = some b → bad2 a b = false := by
  intro l i a b h ha hb
  cases hbb : bad2 a b with
  | false => rfl
  | true => rw [adj_true l i a b ha hb hbb] at h; cases h
theorem asc_of (l : List Sp) (h : chk l = 0) : ∀ (d i : Nat) (a b : Sp), l[i]? = some a → l[i + d + 1]? = some b → a.hi < b.lo := by
  obtain ⟨h1, h2, _⟩ := chk_zero h
  intro d
  induction d with
  | zero =>
    intro i a b ha hb
    have := adj_of_false l i a b h2 ha hb
    simp [bad2] at this
    omega
  | succ d ih =>
    intro i a b ha hb
    have hlt : i + d + 1 < l.length := by have := (List.getElem?_eq_some_iff.1 hb).1; omega
    obtain ⟨⟨lo, hi, val⟩, hm⟩ : ∃ m, l[i + d + 1]? = some m := ⟨_, List.getElem?_eq_getElem hlt⟩
    have e1 := ih i a _ ha hm
    have e2 := adj_of_false l (i + d + 1) _ b h2 hm (by rw [← hb]; congr 1)
    have e3 := good1 h1 hm
    simp [bad2] at e2
    simp at e1
    omega
theorem cls_found (l : List Sp) (h : chk l = 0) (c : Int) (r : Nat) (s : Sp) (hs : l[r]? = some s) (h1 : s.lo ≤ c) (h2 : c ≤ s.hi) : cls l c = s.val := by
  unfold cls
  rw [if_pos h]
  have : l.find? (fun s => decide (s.lo ≤ c ∧ c ≤ s.hi)) = some s := by
    rw [List.find?_eq_some_iff_getElem]
    obtain ⟨hl, he⟩ := List.getElem?_eq_some_iff.1 hs
    refine ⟨by simp [h1, h2], r, hl, he, fun j hj => ?_⟩
    have := asc_of l h (r - j - 1) j l[j] s (List.getElem?_eq_getElem (by omega)) (by rw [show j + (r - j - 1) + 1 = r by omega]; exact hs)
    simp
    omega
  rw [this]
theorem cls_none (l : List Sp) (c : Int) (h : ∀ (i : Nat) (s : Sp), l[i]? = some s → ¬ (s.lo ≤ c ∧ c ≤ s.hi)) : cls l c = 0 := by
  unfold cls
  split
  · have : l.find? (fun s => decide (s.lo ≤ c ∧ c ≤ s.hi)) = none := by
      rw [List.find?_eq_none]
      intro s hs
      obtain ⟨i, hi⟩ := List.mem_iff_getElem?.1 hs
      simpa using h i s hi
    rw [this]
  · rfl
theorem cls_bad (l : List Sp) (h : ¬ chk l = 0) (c : Int) : cls l c = 0 := by unfold cls; rw [if_neg h]
/-- What the search gives decides. -/
theorem cls_out (l : List Sp) (h : chk l = 0) (c : Int) (r : Nat) (hr : r ≤ l.length) (hL : ∀ (i : Nat) (s : Sp), i + 1 = r → l[i]? = some s → s.hi < c) (hno : ∀ s, l[r]? = some s → c < s.lo) : cls l c = 0 := by
  refine cls_none l c fun i s hs hx => ?_
  obtain ⟨h1, _, _⟩ := chk_zero h
  have hgood : ∀ (j : Nat) (t : Sp), l[j]? = some t → t.lo ≤ t.hi := fun j ⟨lo, hi, val⟩ ht => (good1 h1 ht).2.1
  by_cases e : i < r
  · by_cases e' : i + 1 = r
    · have := hL i s e' hs; omega
    · have hlt : r - 1 < l.length := by omega
      have e1 := hL (r - 1) l[r - 1] (by omega) (List.getElem?_eq_getElem hlt)
      have e2 := asc_of l h (r - 1 - i - 1) i s l[r - 1] hs (by rw [show i + (r - 1 - i - 1) + 1 = r - 1 by omega]; exact List.getElem?_eq_getElem hlt)
      have e3 := hgood (r - 1) l[r - 1] (List.getElem?_eq_getElem hlt)
      omega
  · by_cases e' : i = r
    · subst e'; have := hno s hs; omega
    · have hl := (List.getElem?_eq_some_iff.1 hs).1
      have hr : l[r]? = some l[r] := List.getElem?_eq_getElem (by omega)
      have e1 := hno _ hr
      have e2 := asc_of l h (i - r - 1) r l[r] s hr (by rw [show r + (i - r - 1) + 1 = i by omega]; exact hs)
      have e3 := hgood r _ hr
      omega
end Go.Proofs.YtfeofhinpgodoaaGreatDoor

namespace Go.Proofs.YtfeofhinpgodoaaGreatDoor
open Go.RowKit Go.Shelf

/-- A function value of the shape func(int) int that only computes: in every later world it gives f. -/
def FnII (w : World) (v : Value) (f : Int → Int) : Prop :=
  ∃ g cb, v = .func (.func g) #[] cb ∧ Enters Tryz.prog g ∧ ∀ (W : World) (c : Int), Below w.heap.size w W → Calls Tryz.prog g (#[.int .i64 c] ++ cb) W fun e w' => e = .returned (.int .i64 (f c)) ∧ Below W.heap.size W w'
theorem FnII.below {w w1 : World} {v : Value} {f : Int → Int} (h : FnII w v f) (hb : Below w.heap.size w w1) : FnII w1 v f := by
  obtain ⟨g, cb, e, he, hc⟩ := h
  exact ⟨g, cb, e, he, fun W c hW => hc W c (bthen hb hW)⟩

set_option maxHeartbeats 400000 in
theorem find1_any (c : Int) (w : World) : Calls Tryz.prog 93 #[.int .i64 c] w fun e w' => e = .returned (.int .i64 0) ∧ Below w.heap.size w w' := by
  go_enter Tryz.func93, Tryz.ntmps93
  go_wp2
  go_ret
  exact ⟨rfl, Below.refl _ _⟩

set_option maxHeartbeats 1000000 in
theorem find2_any (A : Option Addr) (n cp B : Nat) (x : Int) (l : List Sp) (w : World) (hR : RdSp w A n l) (h0 : chk l = 0)
   (hc : w.cell? ⟨B, 0, none⟩ = some (.slice A n cp)) :
    Calls Tryz.prog 94 #[.int .i64 x, .pointer (some ⟨B, 0, none⟩)] w fun e w' => e = .returned (.int .i64 (cls l x)) ∧ Below w.heap.size w w' := by
  have hn := hR.bd
  have HR := Lib.hid hR
  have HC := Lib.hid hc
  have hlen := Lib.hid hR.len
  have H0 := Lib.hid h0
  have hBs := World.block_lt_of_cell? w _ hc
  have hBs' : B < w.heap.size := hBs
  clear hR h0 hBs
  go_enter Tryz.func94, Tryz.ntmps94
  go_wp2_with (go_at_call 95; refine (search_any A n cp B w.heap.size x l _ (HR.out.below ((Below.refl _ _).alloc (Nat.le_refl _) _)) (by go_simp) (by go_simp)).mono ?_; rintro e w1 ⟨r, ⟨hr, hL, hU⟩, rfl, hb⟩; have HL := Lib.hid hL; have HU := Lib.hid hU; clear hL hU)
  have hb0 := bthen ((Below.refl _ _).alloc (Nat.le_refl _) _) hb
  have hc1 := bcel hb0 hc
  have hx1 : w1.cell? ⟨w.heap.size, 0, none⟩ = some (.int .i64 x) := bcel hb (by go_simp)
  have hB1 : B < w1.heap.size := Nat.lt_of_lt_of_le hBs' hb0.size
  have HB := Lib.hid hb0
  have HR1 := Lib.hid (HR.out.below hb0)
  clear hb hb0 hc HC HR
  by_cases hlt : r < n
  · obtain ⟨b, o, rfl⟩ := HR1.out.addr (by omega)
    obtain ⟨lo, hi, val, hs, c0, c1, c2⟩ := RdSp.elt HR1.out hlt
    have hlt' : (r : Int) < (n : Int) := by omega
    have hU := HU.out _ hs.out
    replace hU : x ≤ hi := hU
    by_cases hlo : lo ≤ x
    · have hf := Lib.hid (cls_found l H0.out x r _ hs.out hlo hU)
      go_quiet (fail)
      go_wp2
      go_ret
      exact ⟨ret_int hf.out.symm, bdrewN HB.out _⟩
    · have hf := Lib.hid (cls_out l H0.out x r (by rw [hlen.out]; exact hr) HL.out (fun s h => by rw [hs.out] at h; cases h; show x < lo; omega))
      have hd := decide_eq_false hlo
      go_quiet (fail)
      go_wp2
      go_ret
      exact ⟨ret_int hf.out.symm, bdrewN HB.out _⟩
  · have hd : decide ((r : Int) < (n : Int)) = false := decide_eq_false (by omega)
    have hf := Lib.hid (cls_out l H0.out x r (by rw [hlen.out]; exact hr) HL.out (fun s h => by have := (List.getElem?_eq_some_iff.1 h).1; rw [hlen.out] at this; omega))
    go_quiet (fail)
    go_wp2
    go_ret
    exact ⟨ret_int hf.out.symm, bdrewN HB.out _⟩

set_option maxHeartbeats 400000 in
theorem finder_any (A : Option Addr) (n cp : Nat) (l : List Sp) (w : World) (hR : RdSp w A n l) (hG : Glob w) :
    Calls Tryz.prog 63 #[.slice A n cp] w fun e w' => ∃ v, FnII w' v (cls l) ∧ e = .returned v ∧ Below w.heap.size w w' := by
  have hn := hR.bd
  have HR := Lib.hid hR; have HG := Lib.hid hG
  have e48 := Lib.hid (enters_of Tryz.func93 (by kernel_rfl) rfl)
  have e49 := Lib.hid (enters_of Tryz.func94 (by kernel_rfl) rfl)
  clear hR hG
  have hb1 := Lib.hid ((Below.refl _ w).alloc (Nat.le_refl _) (.cells #[.slice A n cp] 22))
  by_cases hk : chk l = 0
  · go_enter Tryz.func63, Tryz.ntmps63
    go_wp2_with (go_at_call 76; refine (check_any _ _ _ l _ (HR.out.below hb1.out) (HG.out.below hb1.out)).mono ?_; rintro e w1 ⟨rfl, hb⟩; rw [hk])
    go_ret
    refine ⟨_, ⟨_, _, rfl, e49.out, fun W c hW => ?_⟩, rfl, bthen hb1.out hb⟩
    have hc : w1.cell? ⟨w.heap.size, 0, none⟩ = some (.slice A n cp) := bcel hb (by go_simp)
    exact find2_any A n cp w.heap.size c l W ((HR.out.below (bthen hb1.out hb)).below hW) hk (bcel hW hc)
  · have hk' := bne_iff_ne.2 hk
    go_enter Tryz.func63, Tryz.ntmps63
    go_wp2_with (go_at_call 76; refine (check_any _ _ _ l _ (HR.out.below hb1.out) (HG.out.below hb1.out)).mono ?_; rintro e w1 ⟨rfl, hb⟩)
    go_ret
    refine ⟨_, ⟨_, #[], rfl, e48.out, fun W c hW => ?_⟩, rfl, bthen hb1.out hb⟩
    exact (find1_any c W).mono fun e w' ⟨he, hb⟩ => ⟨by rw [he, cls_bad l hk], hb⟩

set_option maxHeartbeats 400000 in
theorem class_any (A : Option Addr) (n cp : Nat) (x : Int) (l : List Sp) (w : World) (hR : RdSp w A n l) (hG : Glob w) :
    Calls Tryz.prog 45 #[.slice A n cp, .int .i64 x] w fun e w' => e = .returned (.int .i64 (cls l x)) ∧ Below w.heap.size w w' := by
  have HR := Lib.hid hR; have HG := Lib.hid hG
  clear hR hG
  go_enter Tryz.func45, Tryz.ntmps45
  go_wp2_with (go_at_call 63; refine (finder_any _ _ _ l _ HR.out HG.out).mono ?_; rintro e w1 ⟨v, ⟨g, cb, rfl, he, hc⟩, rfl, hb⟩; have HC := Lib.hid hc; clear hc; have he' : ∀ args w, (callFunc g args).run Tryz.prog w = .ok (.enter g args) w := he; clear he)
  refine (HC.out w1 x (Below.refl _ _)).mono ?_
  rintro e w2 ⟨rfl, hb2⟩
  go_wp2
  go_ret
  exact ⟨rfl, bthen hb hb2⟩

set_option maxHeartbeats 400000 in
theorem starter_any (A : Option Addr) (n cp : Nat) (x : Int) (l : List Sp) (w : World) (hR : RdSp w A n l) (hG : Glob w) :
    Calls Tryz.prog 54 #[.slice A n cp, .int .i64 x] w fun e w' => e = .returned (.bool (cls l x == 0)) ∧ Below w.heap.size w w' := by
  have HR := Lib.hid hR; have HG := Lib.hid hG
  clear hR hG
  go_enter Tryz.func54, Tryz.ntmps54
  go_wp2_with (go_at_call 45; refine (class_any _ _ _ x l _ HR.out HG.out).mono ?_; rintro e w1 ⟨rfl, hb⟩)
  go_ret
  exact ⟨rfl, hb⟩
end Go.Proofs.YtfeofhinpgodoaaGreatDoor

namespace Go.Proofs.YtfeofhinpgodoaaGreatDoor

/-- One replacing leads from x to y. -/
def Leads (step : Int → Option (List Int)) (x y : Int) : Prop := ∃ l, step x = some l ∧ y ∈ l
/-- Replacing ends. -/
def Ends (step : Int → Option (List Int)) (c : Int) : Prop := Acc (fun y x => Leads step x y) c
/-- A way of at least one step. -/
inductive Way (step : Int → Option (List Int)) : Int → Int → Prop
  | one {x y : Int} : Leads step x y → Way step x y
  | more {x y z : Int} : Way step x y → Leads step y z → Way step x z

section
variable {step : Int → Option (List Int)}

theorem Ends.leaf {c : Int} (h : step c = none) : Ends step c := ⟨_, fun _ ⟨l, e, _⟩ => by rw [h] at e; cases e⟩
theorem Ends.node {c : Int} {l : List Int} (h : step c = some l) (H : ∀ x ∈ l, Ends step x) : Ends step c := ⟨_, fun y ⟨l', e, hy⟩ => by rw [h] at e; cases e; exact H y hy⟩
theorem Ends.sub {c x : Int} {l : List Int} (h : Ends step c) (e : step c = some l) (hx : x ∈ l) : Ends step x := h.inv ⟨l, e, hx⟩
theorem Way.cons {x y z : Int} (h : Leads step x y) (k : Way step y z) : Way step x z := by
  induction k with
  | one h2 => exact .more (.one h) h2
  | more _ h2 ih => exact .more ih h2
theorem Way.head {x z : Int} (h : Way step x z) : ∃ y, Leads step x y ∧ (y = z ∨ Way step y z) := by
  induction h with
  | one h => exact ⟨_, h, .inl rfl⟩
  | more h k ih =>
    obtain ⟨y, h1, h2 | h2⟩ := ih
    · subst h2; exact ⟨_, h1, .inr (.one k)⟩
    · exact ⟨y, h1, .inr (.more h2 k)⟩
theorem Ends.no_ring {c : Int} (h : Ends step c) : ¬ Way step c c := by
  induction h with
  | intro c _ ih =>
    intro hw
    obtain ⟨y, h1, h2 | h2⟩ := hw.head
    · subst h2; exact ih y h1 hw
    · exact ih y h1 (.more h2 h1)
theorem Ends.way {c y : Int} (h : Ends step c) (k : Way step c y) : Ends step y := by
  induction k with
  | one h2 => exact h.inv h2
  | more _ h2 ih => exact ih.inv h2

/-- A sum that stops at 65. -/
def bag (ns : List Nat) : Nat := ns.foldl (fun a b => min (a + b) 65) 0

def szF (step : Int → Option (List Int)) : Nat → Int → Nat
  | 0, _ => 1
  | f + 1, c => match step c with
    | Option.none => 1
    | Option.some l => max (bag (l.map (szF step f))) 1

theorem lim_all {F : Nat → Int → Nat} : ∀ l : List Int, (∀ x ∈ l, ∃ N v, ∀ f, N ≤ f → F f x = v) → ∃ N, ∃ g : Int → Nat, ∀ x ∈ l, ∀ f, N ≤ f → F f x = g x := by
  intro l h
  induction l with
  | nil => exact ⟨0, fun _ => 0, fun x hx => by cases hx⟩
  | cons a l ih =>
    obtain ⟨N, g, hg⟩ := ih fun x hx => h x (List.mem_cons_of_mem _ hx)
    obtain ⟨M, v, hv⟩ := h a (List.mem_cons_self ..)
    refine ⟨max N M, fun x => if x = a then v else g x, fun x hx f hf => ?_⟩
    by_cases e : x = a
    · subst e; simp; exact hv f (by omega)
    · simp [e]; exact hg x (by simpa [e] using hx) f (by omega)
theorem szF_lim {c : Int} (h : Ends step c) : ∃ N v, ∀ f, N ≤ f → szF step f c = v := by
  induction h with
  | intro c _ ih =>
    cases e : step c with
    | none => exact ⟨0, 1, fun f _ => by cases f <;> simp [szF, e]⟩
    | some l =>
      obtain ⟨N, g, hg⟩ := lim_all (F := szF step) l fun x hx => ih x ⟨l, e, hx⟩
      refine ⟨N + 1, max (bag (l.map g)) 1, fun f hf => ?_⟩
      obtain ⟨f, rfl⟩ : ∃ f', f = f' + 1 := ⟨f - 1, by omega⟩
      simp only [szF, e]
      rw [List.map_congr_left fun x hx => hg x hx f (by omega)]

open Classical in
/-- How many elements the full replacing of a number has, where an empty one counts as one, up to 65. -/
noncomputable def sz (step : Int → Option (List Int)) (c : Int) : Nat := if h : ∃ N v, ∀ f, N ≤ f → szF step f c = v then h.choose_spec.choose else 1
theorem sz_lim {c : Int} (h : Ends step c) : ∃ N, ∀ f, N ≤ f → szF step f c = sz step c := by
  have hl := szF_lim h
  refine ⟨hl.choose, ?_⟩
  unfold sz
  rw [dif_pos hl]
  exact hl.choose_spec.choose_spec
theorem sz_none {c : Int} (e : step c = none) : sz step c = 1 := by
  obtain ⟨N, h⟩ := sz_lim (Ends.leaf e)
  rw [← h (N + 1) (by omega)]
  simp [szF, e]
theorem sz_some {c : Int} {l : List Int} (h : Ends step c) (e : step c = some l) : sz step c = max (bag (l.map (sz step))) 1 := by
  obtain ⟨N, hN⟩ := sz_lim h
  obtain ⟨M, g, hg⟩ := lim_all (F := szF step) l fun x hx => szF_lim (h.sub e hx)
  have e2 : ∀ x ∈ l, g x = sz step x := fun x hx => by
    obtain ⟨K, hK⟩ := sz_lim (h.sub e hx)
    rw [← hg x hx (max M K) (by omega), hK _ (by omega)]
  rw [← hN (max N M + 1) (by omega)]
  simp only [szF, e]
  rw [List.map_congr_left fun x hx => (hg x hx (max N M) (by omega)).trans (e2 x hx)]

/-- Replacing ends after at most n steps. -/
def EndsN (step : Int → Option (List Int)) : Nat → Int → Prop
  | 0, c => step c = none
  | n + 1, c => ∀ l, step c = some l → ∀ x ∈ l, EndsN step n x
theorem EndsN.succ : ∀ {n : Nat} {c : Int}, EndsN step n c → EndsN step (n + 1) c
  | 0, _, h => fun l e => by rw [show step _ = none from h] at e; cases e
  | n + 1, _, h => fun l e x hx => EndsN.succ (h l e x hx)
theorem EndsN.ends : ∀ {n : Nat} {c : Int}, EndsN step n c → Ends step c
  | 0, _, h => Ends.leaf h
  | n + 1, c, h => by
    cases e : step c with
    | none => exact Ends.leaf e
    | some l => exact Ends.node e fun x hx => EndsN.ends (h l e x hx)
theorem Ends.bound : ∀ (n : Nat) (U : List Int) (c : Int), U.length ≤ n → Ends step c → (∀ y, (y = c ∨ Way step c y) → step y ≠ none → y ∈ U) → EndsN step n c
  | 0, U, c, hU, _, h => by
    obtain rfl := List.eq_nil_of_length_eq_zero (Nat.le_zero.1 hU)
    show step c = none
    cases e : step c with
    | none => rfl
    | some l => exact absurd (h c (.inl rfl) (by rw [e]; simp)) (by simp)
  | n + 1, U, c, hU, hc, h => by
    intro l e x hx
    have hcU := h c (.inl rfl) (by rw [e]; simp)
    refine Ends.bound n (U.filter (· ≠ c)) x ?_ (hc.sub e hx) fun y hy hs => ?_
    · have h1 : (U.filter (· ≠ c)).length < U.length := by
        have h2 : (U.filter (· ≠ c)).length + (U.filter (fun z => !decide (z ≠ c))).length = U.length := by
          rw [← List.countP_eq_length_filter, ← List.countP_eq_length_filter, List.length_eq_countP_add_countP (fun x => decide (x ≠ c))]
          congr 1
          apply List.countP_congr
          simp
        have h3 : c ∈ U.filter (fun z => !decide (z ≠ c)) := by simp [hcU]
        have := List.length_pos_of_mem h3
        omega
      omega
    · have hw : Way step c y := by
        rcases hy with rfl | hy
        · exact .one ⟨l, e, hx⟩
        · exact .cons ⟨l, e, hx⟩ hy
      have hne : y ≠ c := fun e2 => hc.no_ring (e2 ▸ hw)
      simpa [hne] using h y (.inr hw) hs
end
end Go.Proofs.YtfeofhinpgodoaaGreatDoor

namespace Go.Proofs.YtfeofhinpgodoaaGreatDoor
open Go.RowKit Go.Shelf Go.MapKept

/-- What the walk asks of the keys of a type. -/
structure KeyOk (P : Program) (k : TypeId) (ok : Value → Prop) : Prop where
  check : ∀ (w : World) (em : Bool) (v : Value), ok v → (Instr.checkKey em 10000 k v).run P w = .ok () w
  find : ∀ (w : World) (x : Value), ok x → ∀ es : List MapEntry, (∀ e ∈ es, ok e.key) →
    ((Instr.findKey k x es).run P w = .ok none w ∧ ∀ e ∈ es, e.key ≠ x) ∨ ∃ j e, (Instr.findKey k x es).run P w = .ok (some (j, e.val)) w ∧ es[j]? = some e ∧ e.key = x
  stays : ∀ (w : World) (v : Value), ok v → (Instr.keyThatStays v v).run P w = .ok v w

/-- Keys of an integer's type. -/
theorem KeyOk.int {P : Program} {k : TypeId} {q : IntKind} (hk : P.underlying k = some (.int q)) : KeyOk P k (fun v => ∃ a, v = .int q a) := by
  refine ⟨fun w em v ⟨a, e⟩ => ?_, fun w x ⟨a, e⟩ es hes => ?_, fun w v ⟨a, e⟩ => ?_⟩
  · subst e; exact run_checkKey hk (show IsKey (.int q) (.int q a) from rfl) em 9999
  · subst e
    rcases findNow_spec (d := .int q) (k := .int q a) rfl es 0 (fun y hy => by obtain ⟨b, hb⟩ := hes y hy; rw [hb]; rfl) with ⟨h1, h2⟩ | ⟨j, e0, h1, h2, h3⟩
    · exact .inl ⟨run_findKey hk h1, h2⟩
    · exact .inr ⟨j, e0, by simpa using run_findKey hk h1, h2, h3⟩
  · subst e; exact run_keyThatStays (d := .int q) rfl

/-- Keys of a type whose values are compared by '=='. -/
theorem KeyOk.asked {P : Program} {k : TypeId} {d : TypeDesc} {ok : Value → Prop} (hk : P.underlying k = some d) (hnow : ∀ a b, ok a → ok b → Instr.sameNow d a b = none)
    (hcheck : ∀ (w : World) (em : Bool) (v : Value), ok v → (Instr.checkKey em 10000 k v).run P w = .ok () w)
    (heq : ∀ (w : World) (a b : Value), ok a → ok b → ∃ r, (Op.equal k a b).run P w = .ok r w ∧ (r = true ↔ b = a)) (hbits : ∀ v, ok v → Instr.sameBits 10000 v v = true) : KeyOk P k ok := by
  refine ⟨hcheck, fun w x hx es hes => ?_, fun w v hv => by simp [Instr.keyThatStays, hbits v hv]⟩
  cases es with
  | nil => exact .inl ⟨by simp [Instr.findKey, run_underlying hk, Instr.findNow, Result.andThen], fun e he => by cases he⟩
  | cons e es =>
    have h0 : Instr.findNow d x (e :: es) 0 = none := by simp [Instr.findNow, hnow x e.key hx (hes e (by simp))]
    have hrun : (Instr.findKey k x (e :: es)).run P w = (Instr.findAsking k x (e :: es)).run P w := by simp [Instr.findKey, run_underlying hk, h0, Result.andThen]
    rw [hrun]
    have key : ∀ (l : List MapEntry) (i : Nat), (∀ y ∈ l, ok y.key) → ((Instr.findAsking k x l i).run P w = .ok none w ∧ ∀ y ∈ l, y.key ≠ x) ∨ ∃ j y, (Instr.findAsking k x l i).run P w = .ok (some (i + j, y.val)) w ∧ l[j]? = some y ∧ y.key = x := by
      intro l
      induction l with
      | nil => exact fun i _ => .inl ⟨by simp [Instr.findAsking], fun y hy => by cases hy⟩
      | cons y l ih =>
        intro i hl
        obtain ⟨r, hr, hiff⟩ := heq w x y.key hx (hl y (by simp))
        cases r with
        | true => exact .inr ⟨0, y, by simp [Instr.findAsking, hr, Result.andThen], rfl, hiff.1 rfl⟩
        | false =>
          have hne : y.key ≠ x := fun q => by have := hiff.2 q; cases this
          rcases ih (i + 1) (fun z hz => hl z (by simp [hz])) with ⟨h1, h2⟩ | ⟨j, z, h1, h2, h3⟩
          · exact .inl ⟨by simp [Instr.findAsking, hr, h1, Result.andThen], fun z hz => by
              rcases List.mem_cons.1 hz with rfl | hz
              · exact hne
              · exact h2 z hz⟩
          · exact .inr ⟨j + 1, z, by simp [Instr.findAsking, hr, h1, Result.andThen]; omega, by simpa using h2, h3⟩
    rcases key (e :: es) 0 hes with h | ⟨j, y, h1, h2, h3⟩
    · exact .inl h
    · exact .inr ⟨j, y, by simpa using h1, h2, h3⟩

section
variable {κ : Type} [DecidableEq κ]

/-- What a list of keys and values has at a key. -/
def look (kv : List (κ × Value)) (a : κ) : Option Value := (kv.find? (fun p => decide (p.1 = a))).map (·.2)
/-- A value stored at a key. -/
def put (kv : List (κ × Value)) (a : κ) (v : Value) : List (κ × Value) :=
  match kv with
  | [] => [(a, v)]
  | p :: r => if p.1 = a then (a, v) :: r else p :: put r a v

theorem look_nil (a : κ) : look ([] : List (κ × Value)) a = none := rfl
theorem look_cons (p : κ × Value) (r : List (κ × Value)) (a : κ) : look (p :: r) a = if p.1 = a then some p.2 else look r a := by
  unfold look
  rw [List.find?_cons]
  by_cases e : p.1 = a
  · simp [e]
  · simp [e]
theorem look_put (a : κ) (v : Value) (x : κ) : ∀ kv : List (κ × Value), look (put kv a v) x = if x = a then some v else look kv x
  | [] => by
    rw [put, look_cons, look_nil]
    by_cases e : x = a
    · simp [e]
    · simp [e, Ne.symm e]
  | p :: r => by
    rw [put]
    by_cases e : p.1 = a
    · rw [if_pos e, look_cons, look_cons]
      by_cases e2 : x = a
      · simp [e2]
      · simp [e2, Ne.symm e2, e]
    · rw [if_neg e, look_cons, look_cons, look_put a v x r]
      by_cases e2 : p.1 = x
      · have : x ≠ a := fun h => e (e2.trans h)
        simp [e2, this]
      · simp [e2]
theorem look_some_mem {kv : List (κ × Value)} {a : κ} {v : Value} (h : look kv a = some v) : (a, v) ∈ kv := by
  unfold look at h
  cases hf : kv.find? (fun p => decide (p.1 = a)) with
  | none => rw [hf] at h; cases h
  | some p =>
    rw [hf] at h
    have h1 := List.mem_of_find?_eq_some hf
    have h2 := List.find?_some hf
    simp at h h2
    obtain ⟨x, y⟩ := p
    simp at h h2
    rw [← h, ← h2]; exact h1
theorem look_none_iff {kv : List (κ × Value)} {a : κ} : look kv a = none ↔ ∀ p ∈ kv, p.1 ≠ a := by
  unfold look
  simp [List.find?_eq_none]
theorem put_keys (a : κ) (v : Value) : ∀ kv : List (κ × Value), (put kv a v).map (·.1) = if a ∈ kv.map (·.1) then kv.map (·.1) else kv.map (·.1) ++ [a]
  | [] => by simp [put]
  | p :: r => by
    rw [put]
    by_cases e : p.1 = a
    · simp [e]
    · rw [if_neg e]
      simp only [List.map_cons, put_keys a v r]
      by_cases h : a ∈ r.map (·.1)
      · simp [h]
      · have : ¬ a = p.1 := fun q => e q.symm
        simp [h, this]

/-- BLOCK b IS A MAP THAT READS AS kv. -/
def MapAt (enc : κ → Value) (b : Nat) (kv : List (κ × Value)) (w : World) : Prop :=
  ∃ es clock, w.heap[b]? = some (.map es clock) ∧ es.toList.map (fun e => (e.key, e.val)) = kv.map (fun p => (enc p.1, p.2)) ∧ Stamped es clock

variable {enc : κ → Value} {b : Nat} {kv : List (κ × Value)} {w w1 : World} {P : Program} {k : TypeId} {ok : Value → Prop}

omit [DecidableEq κ] in
theorem MapAt.lt (h : MapAt enc b kv w) : b < w.heap.size := by
  obtain ⟨es, clock, hb, _⟩ := h
  exact (Array.getElem?_eq_some_iff.1 hb).1
omit [DecidableEq κ] in
theorem MapAt.same (h : MapAt enc b kv w) (hw : w1.heap[b]? = w.heap[b]?) : MapAt enc b kv w1 := by
  obtain ⟨es, clock, hb, h2⟩ := h
  exact ⟨es, clock, hw.trans hb, h2⟩
omit [DecidableEq κ] in
theorem MapAt.below (h : MapAt enc b kv w) (hb : Below w.heap.size w w1) : MapAt enc b kv w1 := h.same (hb.block b h.lt)
omit [DecidableEq κ] in
theorem MapAt.made (enc : κ → Value) (w : World) : MapAt enc w.heap.size [] (w.alloc (.map #[] 0)) :=
  ⟨#[], 0, (heap_alloc w _).1, rfl, stamped_empty 0⟩

theorem MapAt.find (h : MapAt enc b kv w) (K : KeyOk P k ok) (hok : ∀ a, ok (enc a)) (hinj : ∀ a c, enc a = enc c → a = c) (a : κ) :
    ∃ es clock, w.heap[b]? = some (.map es clock) ∧ es.toList.map (fun e => (e.key, e.val)) = kv.map (fun p => (enc p.1, p.2)) ∧ Stamped es clock ∧
    (((Instr.findKey k (enc a) es.toList).run P w = .ok none w ∧ look kv a = none ∧ (∀ e ∈ es.toList, e.key ≠ enc a)) ∨ ∃ j e, (Instr.findKey k (enc a) es.toList).run P w = .ok (some (j, e.val)) w ∧ es.toList[j]? = some e ∧ e.key = enc a ∧ look kv a = some e.val) := by
  obtain ⟨es, clock, hb, hm, hs⟩ := h
  refine ⟨es, clock, hb, hm, hs, ?_⟩
  have hkeys : ∀ e ∈ es.toList, ok e.key := fun e he => by
    have : (e.key, e.val) ∈ kv.map (fun p => (enc p.1, p.2)) := hm ▸ List.mem_map.2 ⟨e, he, rfl⟩
    obtain ⟨p, _, hp⟩ := List.mem_map.1 this
    simp at hp
    rw [← hp.1]; exact hok _
  have hnd : es.toList.Pairwise (fun x y => x.key ≠ y.key) := ((stamped_iff es clock).1 hs).2.2
  have hlook : ∀ (l : List MapEntry) (kv : List (κ × Value)), l.map (fun e => (e.key, e.val)) = kv.map (fun p => (enc p.1, p.2)) → l.Pairwise (fun x y => x.key ≠ y.key) → ∀ (j : Nat) (e : MapEntry), l[j]? = some e → e.key = enc a → look kv a = some e.val := by
    intro l
    induction l with
    | nil => intro kv _ _ j e hj; simp at hj
    | cons x l ih =>
      intro kv hkv hp j e hj hk
      cases kv with
      | nil => simp at hkv
      | cons p r =>
        simp at hkv
        obtain ⟨⟨h1, h2⟩, h3⟩ := hkv
        obtain ⟨p1, p2⟩ := List.pairwise_cons.1 hp
        rw [look_cons]
        cases j with
        | zero =>
          simp at hj
          subst hj
          rw [if_pos (hinj _ _ (h1.symm.trans hk)), h2]
        | succ j =>
          simp at hj
          have hne : p.1 ≠ a := fun q => p1 e (List.mem_of_getElem? hj) (by rw [h1, q, hk])
          rw [if_neg hne]
          exact ih r (by simpa using h3) p2 j e hj hk
  rcases K.find w (enc a) (hok a) es.toList hkeys with ⟨h1, h2⟩ | ⟨j, e, h1, h2, h3⟩
  · refine .inl ⟨h1, look_none_iff.2 fun p hp q => ?_, h2⟩
    have : (enc p.1, p.2) ∈ es.toList.map (fun e => (e.key, e.val)) := hm ▸ List.mem_map.2 ⟨p, hp, rfl⟩
    obtain ⟨e, he, hpe⟩ := List.mem_map.1 this
    simp at hpe
    exact h2 e he (by rw [hpe.1, q])
  · exact .inr ⟨j, e, h1, h2, h3, hlook _ _ hm hnd j e h2 h3⟩

/-- 'm[k]', 'v, ok := m[k]'. -/
theorem MapAt.lookup {t e : TypeId} {z : Value} (h : MapAt enc b kv w) (K : KeyOk P k ok) (hok : ∀ a, ok (enc a)) (hinj : ∀ a c, enc a = enc c → a = c) (ht : P.underlying t = some (.map k e)) (hz : (zeroValue e).run P w = .ok z w) (a : κ) (comma : Bool) :
    (Instr.lookup t (.map (some b)) (enc a) comma).run P w = .ok (if comma then .tuple #[(look kv a).getD z, .bool (look kv a).isSome] else (look kv a).getD z) w := by
  obtain ⟨es, clock, hb, _, _, ⟨h1, h2, _⟩ | ⟨j, e, h1, _, _, h3⟩⟩ := h.find K hok hinj a
  · cases comma <;> simp [Instr.lookup, run_underlying ht, MapKept.run_getObj_map hb, K.check w _ _ (hok a), h1, h2, hz, Result.andThen]
  · cases comma <;> simp [Instr.lookup, run_underlying ht, MapKept.run_getObj_map hb, K.check w _ _ (hok a), h1, h3, Result.andThen]

/-- 'm[k] = v'. -/
theorem MapAt.update {t e : TypeId} (h : MapAt enc b kv w) (K : KeyOk P k ok) (hok : ∀ a, ok (enc a)) (hinj : ∀ a c, enc a = enc c → a = c) (ht : P.underlying t = some (.map k e)) (a : κ) (v : Value) :
    ∃ w1, (Instr.mapUpdate t (.map (some b)) (enc a) v).run P w = .ok () w1 ∧ MapAt enc b (put kv a v) w1 ∧ w1.heap.size = w.heap.size ∧ w.grownBy w1 (some b) := by
  obtain ⟨es, clock, hb, hm, hs, hf⟩ := h.find K hok hinj a
  have hgrown : ∀ o : Obj, w.grownBy { w with heap := w.heap.setIfInBounds b o } (some b) := fun o => ⟨rfl, rfl, rfl, by simp, fun i hi hne => (heap_set hb).2 i (fun q => hne (by rw [q]))⟩
  have hput : ∀ (l : List MapEntry) (kv : List (κ × Value)), l.map (fun e => (e.key, e.val)) = kv.map (fun p => (enc p.1, p.2)) →
      ((∀ e ∈ l, e.key ≠ enc a) → (l ++ [({ key := enc a, val := v, born := clock } : MapEntry)]).map (fun e => (e.key, e.val)) = (put kv a v).map (fun p => (enc p.1, p.2))) ∧
      (∀ (j : Nat) (e : MapEntry), l[j]? = some e → e.key = enc a → l.Pairwise (fun x y => x.key ≠ y.key) → (l.set j { e with key := enc a, val := v }).map (fun e => (e.key, e.val)) = (put kv a v).map (fun p => (enc p.1, p.2))) := by
    intro l
    induction l with
    | nil =>
      intro kv hkv
      cases kv with
      | nil => exact ⟨fun _ => by simp [put], fun j e hj => by simp at hj⟩
      | cons p r => simp at hkv
    | cons x l ih =>
      intro kv hkv
      cases kv with
      | nil => simp at hkv
      | cons p r =>
        simp at hkv
        obtain ⟨⟨h1, h2⟩, h3⟩ := hkv
        have ih := ih r (by simpa using h3)
        refine ⟨fun hne => ?_, fun j e hj hk hp => ?_⟩
        · have : p.1 ≠ a := fun q => hne x (by simp) (by rw [h1, q])
          rw [put, if_neg this]
          simp only [List.cons_append, List.map_cons, h1, h2]
          rw [ih.1 fun e he => hne e (by simp [he])]
        · obtain ⟨p1, p2⟩ := List.pairwise_cons.1 hp
          cases j with
          | zero =>
            simp at hj
            subst hj
            have : p.1 = a := hinj _ _ (h1.symm.trans hk)
            rw [put, if_pos this]
            simp [h3]
          | succ j =>
            simp at hj
            have : p.1 ≠ a := fun q => p1 e (List.mem_of_getElem? hj) (by rw [h1, q, hk])
            rw [put, if_neg this]
            simp only [List.set_cons_succ, List.map_cons, h1, h2]
            rw [ih.2 j e hj hk p2]
  have hnd : es.toList.Pairwise (fun x y => x.key ≠ y.key) := ((stamped_iff es clock).1 hs).2.2
  rcases hf with ⟨h1, h2, h3⟩ | ⟨j, e, h1, h2, h3, h4⟩
  · refine ⟨{ w with heap := w.heap.setIfInBounds b (.map (es.push ⟨enc a, v, clock⟩) (clock + 1)) }, ?_, ⟨_, _, (heap_set hb).1, ?_, stamped_push hs h3⟩, by simp, hgrown _⟩
    · simp [Instr.mapUpdate, run_underlying ht, MapKept.run_getObj_map hb, K.check w false _ (hok a), h1, MapKept.run_setObj_map _ hb, Result.andThen]
    · rw [Array.toList_push]
      exact (hput _ _ hm).1 h3
  · have hj : es[j]? = some e := by simpa using h2
    have hlist : (es.modify j (fun e' => { e' with key := enc a, val := v })).toList = es.toList.set j { e with key := enc a, val := v } := by rw [Array.toList_modify, ChangeMaps.modify_eq_set _ _ _ _ h2]
    refine ⟨{ w with heap := w.heap.setIfInBounds b (.map (es.modify j (fun e' => { e' with key := enc a, val := v })) clock) }, ?_, ⟨_, _, (heap_set hb).1, ?_, stamped_modify hs _ _ (fun _ _ => rfl) (fun e' _ he' => by rw [hj] at he'; cases he'; exact h3.symm)⟩, by simp, hgrown _⟩
    · simp [Instr.mapUpdate, run_underlying ht, MapKept.run_getObj_map hb, K.check w false _ (hok a), h1, hj, h3, K.stays w _ (hok a), MapKept.run_setObj_map _ hb, Result.andThen]
    · rw [hlist]
      exact (hput _ _ hm).2 j e h2 h3 hnd
end
end Go.Proofs.YtfeofhinpgodoaaGreatDoor

namespace Go.Proofs.YtfeofhinpgodoaaGreatDoor
open Go.RowKit Go.Shelf

structure Mp where
  frm : Int
  tag : ByteArray
  to : List Int
/-- A mapping as it lies in memory. -/
structure MpC where
  mp : Mp
  A : Option Addr
  n : Nat
  c : Nat
def encMp (m : MpC) : List Value := [.int .i64 m.mp.frm, .slice m.A m.n m.c, .string m.mp.tag]
/-- A row of mappings. -/
def RdMp (w : World) (A : Option Addr) (n : Nat) (l : List Mp) : Prop :=
  ∃ raw : List MpC, raw.map (·.mp) = l ∧ Rd encMp 3 w A n raw ∧ ∀ m ∈ raw, RdI w m.A m.n m.mp.to ∧ m.n ≤ m.c
theorem RdMp.len {w : World} {A : Option Addr} {n : Nat} {l : List Mp} (h : RdMp w A n l) : l.length = n := by
  obtain ⟨raw, rfl, h1, _⟩ := h
  rw [List.length_map]; exact h1.len
theorem RdMp.bd {w : World} {A : Option Addr} {n : Nat} {l : List Mp} (h : RdMp w A n l) : n < 17592186044417 := by
  obtain ⟨raw, rfl, h1, _⟩ := h
  exact h1.bd
theorem RdMp.addr {w : World} {A : Option Addr} {n : Nat} {l : List Mp} (h : RdMp w A n l) (hn : 0 < n) : ∃ b o, A = some ⟨b, o, none⟩ := by
  obtain ⟨raw, rfl, h1, _⟩ := h
  exact h1.addr hn
theorem RdMp.below {w w1 : World} {A : Option Addr} {n : Nat} {l : List Mp} (h : RdMp w A n l) (hb : Below w.heap.size w w1) : RdMp w1 A n l := by
  obtain ⟨raw, e, h1, h2⟩ := h
  exact ⟨raw, e, h1.below hb, fun m hm => ⟨(h2 m hm).1.below hb, (h2 m hm).2⟩⟩
theorem RdMp.nil {w : World} {A : Option Addr} : RdMp w A 0 [] := ⟨[], rfl, Rd.nil, fun _ h => by cases h⟩
theorem RdMp.elt {w : World} {b o n i : Nat} {l : List Mp} (h : RdMp w (some ⟨b, o, none⟩) n l) (hi : i < n) :
    ∃ (m : Mp) (A' : Option Addr) (n' c' : Nat), Hid (l[i]? = some m) ∧ w.cell? ⟨b, o + i * 3, none⟩ = some (.int .i64 m.frm) ∧ w.cell? ⟨b, o + i * 3 + 1, none⟩ = some (.slice A' n' c') ∧ w.cell? ⟨b, o + i * 3 + 2, none⟩ = some (.string m.tag) ∧ Hid (RdI w A' n' m.to) ∧ n' ≤ c' := by
  obtain ⟨raw, e, h1, h2⟩ := h
  obtain ⟨b', o', e', hc⟩ := h1.cells (by omega)
  cases e'
  have hl : i < raw.length := by rw [h1.len]; exact hi
  have hm : raw[i] ∈ raw := List.getElem_mem hl
  refine ⟨raw[i].mp, raw[i].A, raw[i].n, raw[i].c, ?_, hc i hl 0 _ rfl, hc i hl 1 _ rfl, hc i hl 2 _ rfl, (h2 _ hm).1, (h2 _ hm).2⟩
  show l[i]? = _
  rw [← e, List.getElem?_map, List.getElem?_eq_getElem hl]; rfl
end Go.Proofs.YtfeofhinpgodoaaGreatDoor

namespace Go.Proofs.YtfeofhinpgodoaaGreatDoor
open Go.RowKit Go.Shelf

def validC (c : Int) : Bool := decide (0 ≤ c ∧ c ≤ 1114111)

set_option maxHeartbeats 400000 in
theorem validC_any (c : Int) (w : World) : Calls Tryz.prog 150 #[.int .i64 c] w fun e w' => e = .returned (.bool (validC c)) ∧ w = w' := by
  by_cases h0 : 0 ≤ c
  · by_cases h1 : c ≤ 1114111
    · have H := Lib.hid (show validC c = true from decide_eq_true ⟨h0, h1⟩)
      go_enter Tryz.func150, Tryz.ntmps150
      go_wp2
      go_ret
      exact ⟨ret_bool H.out.symm, rfl⟩
    · have H := Lib.hid (show validC c = false from decide_eq_false (fun h => h1 h.2))
      go_enter Tryz.func150, Tryz.ntmps150
      go_wp2
      go_ret
      exact ⟨ret_bool H.out.symm, rfl⟩
  · have H := Lib.hid (show validC c = false from decide_eq_false (fun h => h0 h.1))
    go_enter Tryz.func150, Tryz.ntmps150
    go_wp2
    go_ret
    exact ⟨ret_bool H.out.symm, rfl⟩

set_option maxHeartbeats 400000 in
theorem codes1_any (c : Int) (w : World) : Calls Tryz.prog 149 #[.int .i64 c] w fun e w' => e = .returned (.bool (!validC c)) ∧ w = w' := by
  go_enter Tryz.func149, Tryz.ntmps149
  go_wp2_with (go_at_call 150; refine (validC_any _ _).mono ?_; rintro e w' ⟨rfl, rfl⟩)
  go_ret
  exact ⟨rfl, rfl⟩

set_option maxHeartbeats 1000000 in
theorem indexI_any (A : Option Addr) (n c : Nat) (xs : List Int) (g : FuncId) (cb : Array Value) (w : World) (I : Nat → World → Prop) (T : World → Prop) (he : Enters Tryz.prog g) (hn : n < 17592186044417)
    (hI0 : I 0 w) (hrd : ∀ j W, I j W → RdI W A n xs)
    (hcall : ∀ (j : Nat) (x : Int) (W : World), xs[j]? = some x → I j W → Calls Tryz.prog g (#[.int .i64 x] ++ cb) W fun e w' => ∃ r : Bool, e = .returned (.bool r) ∧ (r = false → I (j + 1) w') ∧ (r = true → T w')) :
    Calls Tryz.prog 144 #[.slice A n c, .func (.func g) #[] cb] w fun e w' => ∃ i : Int, e = .returned (.int .i64 i) ∧ ((i = -1 ∧ I n w') ∨ (0 ≤ i ∧ T w')) := by
  have HI0 := Lib.hid hI0; have HRd := Lib.hid hrd; have HC := Lib.hid hcall
  clear hI0 hrd hcall
  have he' : ∀ args w, (callFunc g args).run Tryz.prog w = .ok (.enter g args) w := he
  clear he
  go_enter Tryz.func144, Tryz.ntmps144
  go_wp2_with fail
  go_loopw [8] (fun r wr => ∃ k : Nat, k ≤ n ∧ r = .int .i64 (k : Int) ∧ Hid (I k wr)) (fun r _ => n - (intOf r).toNat)
  case atStart => exact ⟨0, by omega, by go_num, HI0⟩
  case round =>
    obtain ⟨k, hk, rfl, HI⟩ := hrel
    by_cases hlt : k < n
    · obtain ⟨b, o, rfl⟩ := (HRd.out k wr HI.out).addr (by omega)
      obtain ⟨x, hx, cx⟩ := RdI.elt (HRd.out k wr HI.out) hlt
      have hlt' : (k : Int) < (n : Int) := by omega
      go_wp2_with fail
      refine (HC.out k x wr hx.out HI.out).mono ?_
      rintro e w1 ⟨r, rfl, h1, h2⟩
      cases r
      · have HI1 := Lib.hid (h1 rfl)
        clear h1 h2
        go_wp2_with fail
        go_roundw
        case rel => exact ⟨k + 1, by omega, by go_num, HI1⟩
        case measure => simp [intOf]; omega
      · have HT := Lib.hid (h2 rfl)
        clear h1 h2
        go_wp2_with fail
        go_ret
        exact ⟨k, rfl, .inr ⟨by omega, HT.out⟩⟩
    · have e : k = n := by omega
      subst e
      have hlt' : ¬ (k : Int) < (k : Int) := by omega
      go_wp2_with fail
      go_ret
      exact ⟨-1, rfl, .inl ⟨rfl, HI.out⟩⟩

set_option maxHeartbeats 400000 in
theorem containsI_any (A : Option Addr) (n c : Nat) (xs : List Int) (g : FuncId) (cb : Array Value) (w : World) (I : Nat → World → Prop) (T : World → Prop) (he : Enters Tryz.prog g) (hn : n < 17592186044417)
    (hI0 : I 0 w) (hrd : ∀ j W, I j W → RdI W A n xs)
    (hcall : ∀ (j : Nat) (x : Int) (W : World), xs[j]? = some x → I j W → Calls Tryz.prog g (#[.int .i64 x] ++ cb) W fun e w' => ∃ r : Bool, e = .returned (.bool r) ∧ (r = false → I (j + 1) w') ∧ (r = true → T w')) :
    Calls Tryz.prog 117 #[.slice A n c, .func (.func g) #[] cb] w fun e w' => ∃ r : Bool, e = .returned (.bool r) ∧ (r = false → I n w') ∧ (r = true → T w') := by
  have HE := Lib.hid he; have HI0 := Lib.hid hI0; have HRd := Lib.hid hrd; have HC := Lib.hid hcall
  clear hI0 hrd hcall he
  go_enter Tryz.func117, Tryz.ntmps117
  go_wp2_with fail
  refine (indexI_any A n c xs g cb w I T HE.out hn HI0.out HRd.out HC.out).mono ?_
  rintro e w1 ⟨i, rfl, h⟩
  by_cases hi : 0 ≤ i
  · have hT := Lib.hid (show T w1 from h.elim (fun h => by omega) (·.2))
    clear h
    go_wp2_with fail
    go_ret
    exact ⟨true, rfl, nofun, fun _ => hT.out⟩
  · have hI := Lib.hid (show I n w1 from h.elim (·.2) (fun h => absurd h.1 hi))
    clear h
    go_wp2_with fail
    go_ret
    exact ⟨_, rfl, fun _ => hI.out, fun h => absurd (of_decide_eq_true h) (by omega)⟩

set_option maxHeartbeats 400000 in
theorem codes_any (A : Option Addr) (n c : Nat) (xs : List Int) (w : World) (hR : RdI w A n xs) :
    Calls Tryz.prog 139 #[.slice A n c] w fun e w' => e = .returned (.bool (xs.all validC)) ∧ w = w' := by
  have HR := Lib.hid hR
  have hn := hR.bd
  have HL := Lib.hid hR.len
  clear hR
  have HE := Lib.hid (enters_of Tryz.func149 (by kernel_rfl) rfl)
  go_enter Tryz.func139, Tryz.ntmps139
  go_wp2_with fail
  refine (containsI_any A n c xs 149 #[] w (fun j W => w = W ∧ ∀ i x, i < j → xs[i]? = some x → validC x = true) (fun W => w = W ∧ ∃ x ∈ xs, validC x = false) HE.out hn ⟨rfl, fun i x h => by omega⟩ (fun j W h => h.1 ▸ HR.out) ?_).mono ?_
  · rintro j x W hx ⟨rfl, hj⟩
    refine (codes1_any x w).mono ?_
    rintro e w' ⟨rfl, rfl⟩
    refine ⟨_, rfl, fun h => ⟨rfl, fun i y hi hy => ?_⟩, fun h => ⟨rfl, x, List.mem_of_getElem? hx, by simpa using h⟩⟩
    rcases Nat.lt_or_ge i j with h2 | h2
    · exact hj i y h2 hy
    · obtain rfl : i = j := by omega
      rw [hx] at hy; cases hy
      simpa using h
  · rintro e w1 ⟨r, rfl, h1, h2⟩
    have hw : w = w1 := by
      cases r with
      | false => exact (h1 rfl).1
      | true => exact (h2 rfl).1
    have hr : xs.all validC = !r := by
      cases r
      · rw [Bool.not_false, List.all_eq_true]
        intro x hx
        obtain ⟨i, hi⟩ := List.getElem?_of_mem hx
        exact (h1 rfl).2 i x (by have := (List.getElem?_eq_some_iff.1 hi).1; rw [HL.out] at this; exact this) hi
      · obtain ⟨_, x, hx, hv⟩ := h2 rfl
        rw [Bool.not_true, List.all_eq_false]
        exact ⟨x, hx, by simp [hv]⟩
    have HRr := Lib.hid hr
    clear h1 h2 hr
    subst hw
    go_wp2_with fail
    go_ret
    exact ⟨ret_bool HRr.out.symm, rfl⟩
end Go.Proofs.YtfeofhinpgodoaaGreatDoor

namespace Go.Proofs.YtfeofhinpgodoaaGreatDoor
open Go.RowKit Go.Shelf

theorem flat_at {α : Type} {enc : α → List Value} {k : Nat} (hk : ∀ x, (enc x).length = k) : ∀ (xs : List α) (i j : Nat) (hi : i < xs.length), j < k → (xs.flatMap enc)[i * k + j]? = (enc xs[i])[j]?
  | [], i, j, hi, _ => absurd hi (by simp)
  | x :: xs, 0, j, _, hj => by
    rw [List.flatMap_cons, List.getElem?_append_left (by rw [hk]; omega)]
    simp
  | x :: xs, i + 1, j, hi, hj => by
    rw [List.flatMap_cons, List.getElem?_append_right (by rw [hk, Nat.succ_mul]; omega), hk, show (i + 1) * k + j - k = i * k + j by rw [Nat.succ_mul]; omega, flat_at hk xs i j (by simpa using hi) hj]
    simp
theorem flat_len {α : Type} {enc : α → List Value} {k : Nat} (hk : ∀ x, (enc x).length = k) : ∀ xs : List α, (xs.flatMap enc).length = xs.length * k
  | [] => by simp
  | x :: xs => by rw [List.flatMap_cons, List.length_append, hk, flat_len hk xs, List.length_cons, Nat.succ_mul]; omega
/-- What is owned may be read. -/
theorem own_rd {α : Type} {enc : α → List Value} {k : Nat} (hk : ∀ x, (enc x).length = k) (hk0 : 0 < k) {w : World} {base : Nat} {e : TypeId} {v : Value} {n : Nat} {xs : List α} (h : w.ownsRow base e k v n (xs.flatMap enc)) (hn : n ≤ 17592186044416) :
    ∃ A c, v = .slice A n c ∧ Rd enc k w A n xs := by
  have hl : xs.length = n := by
    have := h.1
    rw [flat_len hk] at this
    exact Nat.eq_of_mul_eq_mul_right hk0 this
  rcases h.2 with ⟨rfl, rfl⟩ | ⟨g, cap, cur, rfl, _⟩
  · exact ⟨none, 0, rfl, hl, hn, fun h => absurd h (by omega)⟩
  · refine ⟨_, cap, rfl, hl, hn, fun hp => ⟨g, 0, rfl, fun i hi j u hu => ?_⟩⟩
    have hj : j < k := by have := (List.getElem?_eq_some_iff.1 hu).1; rwa [hk] at this
    have := h.cells (g := g) rfl (i * k + j) u (by rw [flat_at hk xs i j hi hj]; exact hu)
    rw [Addr.add_lit] at this
    simpa using this
theorem encI_len (x : Int) : (encI x).length = 1 := rfl
theorem encSp_len (x : Sp) : (encSp x).length = 3 := rfl
theorem encRg_len (x : Rg) : (encRg x).length = 2 := rfl
theorem flat_one {xs : List Int} {u : Value} (h : u ∈ xs.flatMap encI) : u.oneCell' = true := by
  obtain ⟨x, _, hx⟩ := List.mem_flatMap.1 h
  simp [encI] at hx
  subst hx; rfl

theorem infoI : (Tryz.prog.info? 3).map (fun i => (i.zero, i.size, i.bytes)) = some (some (.int .i64 0), 1, 8) := by kernel_rfl


theorem run_append_none_any {P : Program} (w : World) (base : Nat) (t ty e : TypeId) (i : TypeInfo) (size : Nat) (ht : P.underlying t = some (.slice e)) (hi : P.info? e = some i)
    (v : Value) (n : Nat) (xs : List Value) (hown : w.ownsRow base e size v n xs) (c : Nat) :
    (Builtin.append_ #[t, t] ty #[v, .slice none 0 c]).run P w = .ok v w := by
  rcases hown.2 with ⟨rfl, rfl⟩ | ⟨g, cap, cur, rfl, _, _, hnc, _⟩
  · simp [Builtin.append_, run_underlying ht, sizeOf, typeInfo, hi, Builtin.lenOf, Builtin.firstCells]
  · simp [Builtin.append_, run_underlying ht, sizeOf, typeInfo, hi, Builtin.lenOf, Builtin.firstCells, hnc, storeCells]

theorem wpList_append_ints {ops : Array Oper} {rest : List Oper} {o : Oper} {a : Act} {Q : Exit → Act → World → Prop} {w : World} (hgd : o.guard = none) (s x : Operand)
    (ho : o.op = .call { callee := .builtin .append, args := #[s, x], argTypes := #[38, 38] })
    (base : Nat) (v : Value) (n : Nat) (xs : List Int) (hs : a.eval s = v) (hown : w.ownsRow base 3 1 v n (xs.flatMap encI))
    (A : Option Addr) (m c : Nat) (news : List Int) (hx : a.eval x = .slice A m c) (hR : RdI w A m news) (hn : n + m ≤ 1000000000) (hbase : base ≤ w.heap.size)
    (h : ∀ v' w', w'.ownsRow base 3 1 v' (n + m) ((xs ++ news).flatMap encI) → Below base w w' → wpList Tryz.prog ops Q rest (a.put o.dst v') w') :
    wpList Tryz.prog ops Q (o :: rest) a w := by
  obtain ⟨i0, hi, hz0, hz1, hz2⟩ := info_parts infoI
  cases A with
  | none =>
    have hm : m = 0 := by
      rcases Nat.eq_zero_or_pos m with e | e
      · exact e
      · obtain ⟨b, o, e⟩ := hR.addr e; cases e
    subst hm
    have hnews : news = [] := List.eq_nil_of_length_eq_zero hR.len
    subst hnews
    have hc : ∀ c, (Value.slice none 0 c) = .slice none 0 c := fun _ => rfl
    refine wpList_plain hgd fun K hK => ?_
    have hr := run_append_none_any (P := Tryz.prog) w base 38 o.type 3 i0 1 Tryz.underlying38 hi v n _ hown c
    unfold Oper.wp execOp
    simp only [ho, resolve, invoke, builtin, Sem.run_bind, Sem.run_pure, Result.andThen_ok, List.map_toArray, List.map_cons, List.map_nil, hs, hx, hr]
    exact hK _ _ (h v w (by simpa using hown) (Below.refl _ _))
  | some ad =>
    have hl : (news.flatMap encI).length = m * 1 := by rw [flat_len encI_len, hR.len]
    refine wpList_append_own_at w hgd s x 38 ho base 3 i0 (.int .i64 0) 1 8 Tryz.underlying38 hi hz0 hz1 hz2 rfl (by decide) v n _ hs hown ad m c (news.flatMap encI) hx hl ?_ (fun u hu => flat_one hu) (by simp only [maxLen]; omega) (by omega) hbase ?_
    · intro j u hu
      have hj : j < news.length := by have := (List.getElem?_eq_some_iff.1 hu).1; rw [flat_len encI_len] at this; omega
      obtain ⟨b, off, e, hc⟩ := hR.cells (by have := hR.len; omega)
      cases e
      have e2 := flat_at encI_len news j 0 hj (by omega)
      rw [Nat.mul_one, Nat.add_zero] at e2
      rw [e2] at hu
      have := hc j hj 0 u hu
      rw [Addr.add_lit]
      simpa using this
    · intro v' w' h1 h2 _ _
      exact h v' w' (by rw [List.flatMap_append]; exact h1) ((Below.refl base w).grown h2 hbase (fun r e => (hown.lt r e).1))
theorem infoRg : (Tryz.prog.info? 77).map (fun i => (i.zero, i.size, i.bytes)) = some (some (.agg #[.int .i64 0, .int .i64 0]), 2, 16) := by kernel_rfl
theorem flat_two {xs : List Rg} {u : Value} (h : u ∈ xs.flatMap encRg) : u.oneCell' = true := by
  obtain ⟨x, _, hx⟩ := List.mem_flatMap.1 h
  simp [encRg] at hx
  rcases hx with rfl | rfl <;> rfl
theorem wpList_append_rgs {ops : Array Oper} {rest : List Oper} {o : Oper} {a : Act} {Q : Exit → Act → World → Prop} {w : World} (hgd : o.guard = none) (s x : Operand)
    (ho : o.op = .call { callee := .builtin .append, args := #[s, x], argTypes := #[24, 24] })
    (base : Nat) (v : Value) (n : Nat) (xs : List Rg) (hs : a.eval s = v) (hown : w.ownsRow base 77 2 v n (xs.flatMap encRg))
    (A : Option Addr) (m c : Nat) (news : List Rg) (hx : a.eval x = .slice A m c) (hR : RdRg w A m news) (hn : n + m ≤ 1000000000) (hbase : base ≤ w.heap.size)
    (h : ∀ v' w', w'.ownsRow base 77 2 v' (n + m) ((xs ++ news).flatMap encRg) → Below base w w' → wpList Tryz.prog ops Q rest (a.put o.dst v') w') :
    wpList Tryz.prog ops Q (o :: rest) a w := by
  obtain ⟨i0, hi, hz0, hz1, hz2⟩ := info_parts infoRg
  cases A with
  | none =>
    have hm : m = 0 := by
      rcases Nat.eq_zero_or_pos m with e | e
      · exact e
      · obtain ⟨b, o, e⟩ := hR.addr e; cases e
    subst hm
    have hnews : news = [] := List.eq_nil_of_length_eq_zero hR.len
    subst hnews
    have hc : ∀ c, (Value.slice none 0 c) = .slice none 0 c := fun _ => rfl
    refine wpList_plain hgd fun K hK => ?_
    have hr := run_append_none_any (P := Tryz.prog) w base 24 o.type 77 i0 2 Tryz.underlying24 hi v n _ hown c
    unfold Oper.wp execOp
    simp only [ho, resolve, invoke, builtin, Sem.run_bind, Sem.run_pure, Result.andThen_ok, List.map_toArray, List.map_cons, List.map_nil, hs, hx, hr]
    exact hK _ _ (h v w (by simpa using hown) (Below.refl _ _))
  | some ad =>
    have hl : (news.flatMap encRg).length = m * 2 := by rw [flat_len encRg_len, hR.len]
    refine wpList_append_own_at w hgd s x 24 ho base 77 i0 (.agg #[.int .i64 0, .int .i64 0]) 2 16 Tryz.underlying24 hi hz0 hz1 hz2 rfl (by decide) v n _ hs hown ad m c (news.flatMap encRg) hx hl ?_ (fun u hu => flat_two hu) (by simp only [maxLen]; omega) (by omega) hbase ?_
    · intro j u hu
      have hj : j < news.length * 2 := by have := (List.getElem?_eq_some_iff.1 hu).1; rwa [flat_len encRg_len] at this
      obtain ⟨b, off, e, hc⟩ := hR.cells (by have := hR.len; omega)
      cases e
      have hi2 : j / 2 < news.length := by omega
      have e2 := flat_at encRg_len news (j / 2) (j % 2) hi2 (by omega)
      have e3 : j / 2 * 2 + j % 2 = j := by omega
      rw [e3] at e2
      rw [e2] at hu
      have := hc (j / 2) hi2 (j % 2) u hu
      rw [Addr.add_lit]
      rwa [Nat.add_assoc, e3] at this
    · intro v' w' h1 h2 _ _
      exact h v' w' (by rw [List.flatMap_append]; exact h1) ((Below.refl base w).grown h2 hbase (fun r e => (hown.lt r e).1))
theorem lit_rd {α : Type} {enc : α → List Value} {k : Nat} (hk : ∀ x, (enc x).length = k) (hk0 : 0 < k) (w : World) (cs : Array Value) (e : TypeId) (n : Nat) (xs : List α) (h : cs.toList = xs.flatMap enc) (hn : n ≤ 17592186044416) (hs : cs.size = n * k) :
    Rd enc k (w.alloc (.cells cs e)) (some ⟨w.heap.size, 0, none⟩) n xs := by
  have h1 := World.ownsRow_lit (base := w.heap.size) (e := e) (size := k) w cs n (Nat.le_refl _) (by simp only [maxLen]; omega) hs
  rw [h] at h1
  obtain ⟨A, c, e1, h2⟩ := own_rd hk hk0 h1 hn
  cases e1
  exact h2

theorem ba (w : World) (o : Obj) : Below w.heap.size w (w.alloc o) := (Below.refl _ _).alloc (Nat.le_refl _) _
theorem litI (w : World) (cs : Array Value) (e : TypeId) (n : Nat) (xs : List Int) (h : cs.toList = xs.flatMap encI) (hn : n ≤ 17592186044416) (hs : cs.size = n) : RdI (w.alloc (.cells cs e)) (some ⟨w.heap.size, 0, none⟩) n xs :=
  lit_rd encI_len (by omega) w cs e n xs h hn (by rw [hs, Nat.mul_one])

theorem litId (w : World) (cs : Array Value) (e : TypeId) (B n : Nat) (xs : List Int) (hB : w.heap.size = B) (h : cs.toList = xs.flatMap encI) (hn : n ≤ 17592186044416) (hs : cs.size = n) : RdI (w.alloc (.cells cs e)).drew (some ⟨B, 0, none⟩) n xs :=
  hB ▸ (litI w cs e n xs h hn hs).below (Below.refl _ _).drew
theorem still_tail_drew {P : Program} {id : Nat} {Q : Exit → Act → World → Prop} {a : Act} {w : World} {l : List Oper} (n : Nat) (hm : P.follows .mixedOrders = true) (hB : Region.lexTailB .any l.toArray n = true)
    (h : wpStill P l.toArray w.drew (fun a' => wpList P l.toArray Q (l.drop n) a' w.drew) (l.take n) a) : (Code.region id l.toArray true).wp P Q a w := wp_region_still_tail n hm hB h
theorem litIb (w : World) (cs : Array Value) (e : TypeId) (B n : Nat) (xs : List Int) (hB : w.heap.size = B) (h : cs.toList = xs.flatMap encI) (hn : n ≤ 17592186044416) (hs : cs.size = n) : RdI (w.alloc (.cells cs e)) (some ⟨B, 0, none⟩) n xs :=
  hB ▸ litI w cs e n xs h hn hs
/-- A Bool that says whether Q holds. -/
def YesPost (Q : Prop) (w : World) (e : Ending) (w' : World) : Prop := ∃ r : Bool, e = .returned (.bool r) ∧ (r = true ↔ Q) ∧ Below w.heap.size w w'
theorem own_below {B : Nat} {e : TypeId} {k : Nat} {v : Value} {n : Nat} {xs : List Value} {w w' : World} (h : w.ownsRow B e k v n xs) (hb : Below w.heap.size w w') : w'.ownsRow B e k v n xs :=
  h.kept (row := none) ⟨hb.os, hb.tape, hb.output, hb.size, fun j hj _ => hb.block j hj⟩ (by cases hv : v.ownBlock <;> simp)
theorem rg_hi (R : List Rg) (lo a b : Int) : ((R ++ [Rg.mk lo a]).flatMap encRg).set (R.length * 2 + 1) (.int .i64 b) = (R ++ [Rg.mk lo b]).flatMap encRg := by
  have h : (R.flatMap encRg).length = R.length * 2 := flat_len encRg_len R
  rw [List.flatMap_append, List.flatMap_append, List.set_append_right _ _ (by omega), h, show R.length * 2 + 1 - R.length * 2 = 1 by omega]
  rfl
theorem litRg (w : World) (cs : Array Value) (e : TypeId) (B n : Nat) (xs : List Rg) (hB : w.heap.size = B) (h : cs.toList = xs.flatMap encRg) (hn : n ≤ 17592186044416) (hs : cs.size = n * 2) : RdRg (w.alloc (.cells cs e)) (some ⟨B, 0, none⟩) n xs :=
  hB ▸ lit_rd encRg_len (by omega) w cs e n xs h hn hs
end Go.Proofs.YtfeofhinpgodoaaGreatDoor

