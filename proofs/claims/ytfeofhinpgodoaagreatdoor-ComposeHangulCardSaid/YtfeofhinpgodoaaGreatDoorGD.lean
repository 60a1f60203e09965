/- hangul.Compose, cpset.Has, a law for regions in segments. -/
import Derived.Test.YtfeofhinpgodoaaGreatDoorGC
import Derived.Test.YtfeofhinpgodoaaGreatDoorGB
import Derived.RangeFuncNested
import Derived.RangeFuncBound
import Derived.RangeFuncCalls
import Derived.RangeFuncLeaves
import Derived.OwnWalkIn
import Derived.TacticsInMore
import Derived.LoopNIn
import Derived.LoopIn
import Derived.Maps.OwnIn
import Derived.Test.YtfeofhinpgodoaaGreatDoorGA
namespace Go.Proofs.YtfeofhinpgodoaaGreatDoor
open Go.RowKit Go.Shelf

def hcomp (a b : Int) : Option Int :=
  if kindF a = 1 ∧ kindF b = 2 then some (44032 + ((a - 4352) * 21 + b - 4449) * 28) else if kindF a = 4 ∧ kindF b = 3 then some (a + b - 4520 + 1) else none

theorem eqA2 (d : Nat) (w : World) (x0 x1 y0 y1 : Int) :
    (Op.equalIn (d + 2) 62 (.agg #[.int .i64 x0, .int .i64 x1]) (.agg #[.int .i64 y0, .int .i64 y1])).run Tryz.prog w = .ok (x0 == y0 && (x1 == y1)) w := by
  obtain ⟨i0, hi, hz0, hz1, hz2⟩ := info_parts infoI
  have hc : Tryz.prog.cellsOf 3 = 1 := by kernel_rfl
  have p0 : ∀ x y : Int, (part 3 #[.int .i64 x, .int .i64 y] 0).run Tryz.prog w = .ok (.int .i64 x) w := fun x y => by go_simp
  have p1 : ∀ x y : Int, (part 3 #[.int .i64 x, .int .i64 y] 1).run Tryz.prog w = .ok (.int .i64 y) w := fun x y => by go_simp
  have q : ∀ x y : Int, (Op.equalIn (d + 1) 3 (.int .i64 x) (.int .i64 y)).run Tryz.prog w = .ok (x == y) w := fun x y => run_equalIn_int w d 3 .i64 .i64 x y Tryz.underlying3
  rw [run_equalIn_array w (d + 1) _ _ Tryz.underlying62 hi, hc]
  have q0 := q x0 y0
  have q1 := q x1 y1
  generalize (x0 == y0) = a at q0 ⊢
  generalize (x1 == y1) = b at q1 ⊢
  simp only [show List.range 2 = [0, 1] from rfl, Op.eqItems, Nat.mul_one, Sem.run_bind, p0, q0, Result.andThen_ok]
  cases a <;> cases b <;> simp [Result.andThen, p1, q1]

theorem encP2_inj (a c : Int × Int) (h : encP2 a = encP2 c) : a = c := by
  obtain ⟨a0, a1⟩ := a
  obtain ⟨c0, c1⟩ := c
  simp [encP2] at h
  rw [h.1, h.2]
theorem keyP2 : KeyOk Tryz.prog 62 (fun v => ∃ k, v = encP2 k) := by
  refine KeyOk.asked Tryz.underlying62 (fun a b ⟨x, hx⟩ ⟨y, hy⟩ => by subst hx hy; rfl) (fun w em v ⟨x, hx⟩ => ?_) (fun w a b ⟨x, hx⟩ ⟨y, hy⟩ => ?_) (fun v ⟨x, hx⟩ => ?_)
  · subst hx
    obtain ⟨x, y⟩ := x
    cases em <;> kernel_rfl
  · subst hx hy
    obtain ⟨x0, x1⟩ := x
    obtain ⟨y0, y1⟩ := y
    refine ⟨_, eqA2 9998 w x0 x1 y0 y1, ?_⟩
    rw [Bool.and_eq_true, beq_iff_eq, beq_iff_eq]
    constructor
    · rintro ⟨h1, h2⟩; rw [h1, h2]
    · intro h
      simp [encP2] at h
      exact ⟨h.1.symm, h.2.symm⟩
  · subst hx
    obtain ⟨x0, x1⟩ := x
    simp [encP2, Instr.sameBits]

attribute [local go_sem high] eqA2

theorem kind_bounds {a : Int} (h : kindF a ≠ 0) : 4352 ≤ a ∧ a < 55204 := by
  unfold kindF at h
  repeat' split at h
  all_goals omega

set_option maxRecDepth 100000 in
set_option maxHeartbeats 2000000 in
theorem hcomp_any (a b : Int) (w : World) : Calls Tryz.prog 31 #[.int .i64 a, .int .i64 b] w fun e w' => e = .returned (.tuple #[.int .i64 ((hcomp a b).getD 0), .bool (hcomp a b).isSome]) ∧ Below w.heap.size w w' := by
  obtain ⟨ka, hka⟩ : ∃ ka, ka = kindF a := ⟨_, rfl⟩
  obtain ⟨kb, hkb⟩ : ∃ kb, kb = kindF b := ⟨_, rfl⟩
  have HKa := Lib.hid hka; have HKb := Lib.hid hkb
  have calls : ∀ (v : Value) (f : World → Prop), True := fun _ _ => trivial
  by_cases h1 : ka = 1 ∧ kb = 2
  · have HR := Lib.hid (show hcomp a b = some (44032 + ((a - 4352) * 21 + b - 4449) * 28) by rw [hcomp, if_pos ⟨hka ▸ h1.1, hkb ▸ h1.2⟩])
    have ha := kind_bounds (a := a) (by rw [← hka, h1.1]; omega)
    have hb := kind_bounds (a := b) (by rw [← hkb, h1.2]; omega)
    obtain ⟨rfl, rfl⟩ := h1
    obtain ⟨ha1, ha2⟩ := ha
    obtain ⟨hb1, hb2⟩ := hb
    clear hka hkb calls
    go_enter Tryz.func31, Tryz.ntmps31
    go_wp2_with fail
    refine (kind_any a _).mono ?_
    rintro e w1 ⟨rfl, hb⟩
    rw [← HKa.out]
    have HB1 := Lib.hid hb
    clear hb
    go_wp2_with fail
    refine (kind_any b _).mono ?_
    rintro e w2 ⟨rfl, hb⟩
    rw [← HKb.out]
    have HB2 := Lib.hid (bthen HB1.out hb)
    clear hb
    go_wp2_with fail
    go_ret2
    exact ⟨by rw [HR.out]; rfl, HB2.out⟩
  · by_cases h2 : ka = 4 ∧ kb = 3
    · have HR := Lib.hid (show hcomp a b = some (a + b - 4520 + 1) by rw [hcomp, if_neg (by rw [← hka, ← hkb]; exact h1), if_pos ⟨hka ▸ h2.1, hkb ▸ h2.2⟩])
      have ha := kind_bounds (a := a) (by rw [← hka, h2.1]; omega)
      have hb := kind_bounds (a := b) (by rw [← hkb, h2.2]; omega)
      obtain ⟨rfl, rfl⟩ := h2
      obtain ⟨ha1, ha2⟩ := ha
      obtain ⟨hb1, hb2⟩ := hb
      clear hka hkb calls h1
      go_enter Tryz.func31, Tryz.ntmps31
      go_wp2_with fail
      refine (kind_any a _).mono ?_
      rintro e w1 ⟨rfl, hb⟩
      rw [← HKa.out]
      have HB1 := Lib.hid hb
      clear hb
      go_wp2_with fail
      refine (kind_any b _).mono ?_
      rintro e w2 ⟨rfl, hb⟩
      rw [← HKb.out]
      have HB2 := Lib.hid (bthen HB1.out hb)
      clear hb
      go_wp2_with fail
      go_ret2
      exact ⟨by rw [HR.out]; rfl, HB2.out⟩
    · have HR := Lib.hid (show hcomp a b = none by rw [hcomp, if_neg (by rw [← hka, ← hkb]; exact h1), if_neg (by rw [← hka, ← hkb]; exact h2)])
      have e1 : (ka == 1 && (kb == 2)) = false := by simpa using h1
      have e2 : (ka == 4 && (kb == 3)) = false := by simpa using h2
      clear hka hkb calls h1 h2
      go_enter Tryz.func31, Tryz.ntmps31
      go_wp2_with fail
      refine (kind_any a _).mono ?_
      rintro e w1 ⟨rfl, hb⟩
      rw [← HKa.out]
      have HB1 := Lib.hid hb
      clear hb
      go_wp2_with fail
      refine (kind_any b _).mono ?_
      rintro e w2 ⟨rfl, hb⟩
      rw [← HKb.out]
      have HB2 := Lib.hid (bthen HB1.out hb)
      clear hb
      go_wp2_with fail
      go_ret2
      exact ⟨by rw [HR.out]; rfl, HB2.out⟩
end Go.Proofs.YtfeofhinpgodoaaGreatDoor

namespace Go.Proofs.YtfeofhinpgodoaaGreatDoor
open Go.RowKit Go.Shelf

set_option maxRecDepth 100000 in
set_option maxHeartbeats 2000000 in
theorem cvalid_any (A1 A2 A3 : Option Addr) (n1 c1 n2 c2 n3 c3 : Nat) (sp : List Sp) (l : List Mp) (ex : List Rg) (w : World) (hS : RdSp w A1 n1 sp) (hM : RdMp w A2 n2 l) (hX : RdRg w A3 n3 ex) (hbig : n3 ≤ 1000000) (hG : Glob w) :
    Calls Tryz.prog 33 #[.agg #[.slice A1 n1 c1, .slice A2 n2 c2, .slice A3 n3 c3]] w fun e w' => ((normE sp l ex = 0 ∧ e = .returned (.agg #[.slice A1 n1 c1, .slice A2 n2 c2, .slice A3 n3 c3])) ∨ (normE sp l ex ≠ 0 ∧ e = .returned (.agg #[.slice none 0 0, .slice none 0 0, .slice none 0 0]))) ∧ Below w.heap.size w w' := by
  obtain ⟨W0, hW0⟩ : ∃ W0, W0 = (w.alloc (.cells #[.slice A1 n1 c1, .slice A2 n2 c2, .slice A3 n3 c3] 28)).alloc (.cells #[.slice none 0 0, .slice none 0 0, .slice none 0 0] 28) := ⟨_, rfl⟩
  have hb0 : Below w.heap.size w W0 := by rw [hW0]; repeat (first | exact Below.refl _ _ | refine Below.alloc ?_ (by first | exact Nat.le_refl _ | (simp; done) | (simp; omega)) _)
  have HB0 := Lib.hid hb0
  have HS := Lib.hid (hS.below hb0); have HM := Lib.hid (hM.below hb0); have HX := Lib.hid (hX.below hb0); have HG := Lib.hid (hG.below hb0)
  clear hS hM hG hX hb0
  go_enter Tryz.func33, Tryz.ntmps33
  go_wp2_with fail
  rw [← hW0]
  have b0 : W0.cell? ⟨w.heap.size, 0, none⟩ = some (.slice A1 n1 c1) := by rw [hW0]; go_simp
  have b1 : W0.cell? ⟨w.heap.size, 1, none⟩ = some (.slice A2 n2 c2) := by rw [hW0]; go_simp
  have b2 : W0.cell? ⟨w.heap.size, 2, none⟩ = some (.slice A3 n3 c3) := by rw [hW0]; go_simp
  have z0 : W0.cell? ⟨w.heap.size + 1, 0, none⟩ = some (.slice none 0 0) := by rw [hW0]; go_simp
  have z1 : W0.cell? ⟨w.heap.size + 1, 1, none⟩ = some (.slice none 0 0) := by rw [hW0]; go_simp
  have z2 : W0.cell? ⟨w.heap.size + 1, 2, none⟩ = some (.slice none 0 0) := by rw [hW0]; go_simp
  have y0 : W0.frozen? ⟨w.heap.size + 1, 0, none⟩ = false := by rw [hW0]; go_simp
  have y1 : W0.frozen? ⟨w.heap.size + 1, 1, none⟩ = false := by rw [hW0]; go_simp
  have y2 : W0.frozen? ⟨w.heap.size + 1, 2, none⟩ = false := by rw [hW0]; go_simp
  have hsz : w.heap.size + 1 < W0.heap.size := by rw [hW0]; simp
  clear hW0
  refine (normCheck_any A1 A2 A3 n1 c1 n2 c2 n3 c3 sp l ex W0 HS.out HM.out HX.out hbig HG.out).mono ?_
  rintro e w1 ⟨rfl, hb⟩
  have HB1 := Lib.hid (bthen HB0.out hb)
  have b0' := bcel hb b0
  have b1' := bcel hb b1
  have b2' := bcel hb b2
  have z0' := bcel hb z0
  have z1' := bcel hb z1
  have z2' := bcel hb z2
  have y0' := (hb.frozen (p := ⟨w.heap.size + 1, 0, none⟩) hsz).trans y0
  have y1' := (hb.frozen (p := ⟨w.heap.size + 1, 1, none⟩) hsz).trans y1
  have y2' := (hb.frozen (p := ⟨w.heap.size + 1, 2, none⟩) hsz).trans y2
  clear hb b0 b1 b2 z0 z1 z2 y0 y1 y2
  by_cases h0 : normE sp l ex = 0
  · have H0 := Lib.hid h0
    rw [h0]
    clear h0
    go_wp2_with fail
    obtain ⟨w9, hw9⟩ : ∃ w9, w9 = ((w1.setCell ⟨w.heap.size + 1, 0, none⟩ (.slice A1 n1 c1)).setCell ⟨w.heap.size + 1, 1, none⟩ (.slice A2 n2 c2)).setCell ⟨w.heap.size + 1, 2, none⟩ (.slice A3 n3 c3) := ⟨_, rfl⟩
    rw [← hw9]
    have e0 : w9.cell? ⟨w.heap.size + 1, 0, none⟩ = some (.slice A1 n1 c1) := by rw [hw9]; go_simp
    have e1 : w9.cell? ⟨w.heap.size + 1, 1, none⟩ = some (.slice A2 n2 c2) := by rw [hw9]; go_simp
    have e2 : w9.cell? ⟨w.heap.size + 1, 2, none⟩ = some (.slice A3 n3 c3) := by rw [hw9]; go_simp
    have hb9 : Below w.heap.size w w9 := by rw [hw9]; exact ((HB1.out.setCell (Nat.le_succ _) _).setCell (Nat.le_succ _) _).setCell (Nat.le_succ _) _
    refine bodyPost_ret (v := .agg #[.slice A1 n1 c1, .slice A2 n2 c2, .slice A3 n3 c3]) (by simp [results, Tryz.results33, go_sem, e0, e1, e2]) rfl ?_
    exact ⟨.inl ⟨H0.out, rfl⟩, hb9⟩
  · have h0' := bne_iff_ne.2 h0
    have H0 := Lib.hid h0
    clear h0
    go_wp2_with fail
    obtain ⟨w9, hw9⟩ : ∃ w9, w9 = ((w1.setCell ⟨w.heap.size + 1, 0, none⟩ (.slice none 0 0)).setCell ⟨w.heap.size + 1, 1, none⟩ (.slice none 0 0)).setCell ⟨w.heap.size + 1, 2, none⟩ (.slice none 0 0) := ⟨_, rfl⟩
    rw [← hw9]
    have e0 : w9.cell? ⟨w.heap.size + 1, 0, none⟩ = some (.slice none 0 0) := by rw [hw9]; go_simp
    have e1 : w9.cell? ⟨w.heap.size + 1, 1, none⟩ = some (.slice none 0 0) := by rw [hw9]; go_simp
    have e2 : w9.cell? ⟨w.heap.size + 1, 2, none⟩ = some (.slice none 0 0) := by rw [hw9]; go_simp
    have hb9 : Below w.heap.size w w9 := by rw [hw9]; exact ((HB1.out.setCell (Nat.le_succ _) _).setCell (Nat.le_succ _) _).setCell (Nat.le_succ _) _
    refine bodyPost_ret (v := .agg #[.slice none 0 0, .slice none 0 0, .slice none 0 0]) (by simp [results, Tryz.results33, go_sem, e0, e1, e2]) rfl ?_
    exact ⟨.inr ⟨by simpa using H0.out, rfl⟩, hb9⟩
end Go.Proofs.YtfeofhinpgodoaaGreatDoor

namespace Go.Proofs.YtfeofhinpgodoaaGreatDoor
open Go.RowKit Go.Shelf

theorem mrg_len (o : List Rg) (r : Rg) : (mrg o r).length ≤ o.length + 1 := by
  unfold mrg
  split
  · split
    · rename_i z h _
      have : o ≠ [] := by rintro rfl; cases h
      have := List.length_pos_iff.2 this
      simp
      try omega
    · simp
  · simp
theorem clip_len : ∀ (l : List Rg), (clip l).length ≤ l.length
  | [] => by simp [clip]
  | r :: t => by
    have ih := clip_len t
    have : (clip1 r).length ≤ 1 := by unfold clip1; split <;> simp
    show (clip1 r ++ clip t).length ≤ _
    simp
    omega
theorem isSet_ex (l : List Rg) : ∃ o, IsSet l o ∧ o.length ≤ l.length := by
  have hs := List.pairwise_mergeSort (le := fun a b : Rg => decide (a.lo ≤ b.lo)) (fun a b c h k => by simp at *; omega) (fun a b => by simp; omega) (clip l)
  obtain ⟨ys, hys⟩ : ∃ ys, ys = (clip l).mergeSort (fun a b : Rg => decide (a.lo ≤ b.lo)) := ⟨_, rfl⟩
  have hp : ys.Perm (clip l) := by rw [hys]; exact List.mergeSort_perm _ _
  rw [← hys] at hs
  have ha : LoAsc ys := by
    intro i j a b hij hi hj
    rcases Nat.lt_or_ge i j with h | h
    · obtain ⟨hi', rfl⟩ := List.getElem?_eq_some_iff.1 hi
      obtain ⟨hj', rfl⟩ := List.getElem?_eq_some_iff.1 hj
      simpa using List.pairwise_iff_getElem.1 hs i j hi' hj' h
    · obtain rfl : i = j := by omega
      rw [hi] at hj; cases hj; exact Int.le_refl _
  have hok : ∀ s ∈ ys, OkR s := fun s h => clip_ok s (hp.mem_iff.1 h)
  have key : ∀ k, k ≤ ys.length → ∃ o, Mrgd ys k o ∧ o.length ≤ k := by
    intro k
    induction k with
    | zero => exact fun _ => ⟨[], Mrgd.start ys, by simp⟩
    | succ k ih =>
      intro hk
      obtain ⟨o, h1, h2⟩ := ih (by omega)
      exact ⟨_, h1.step (List.getElem?_eq_getElem (by omega)) hok ha, by have := mrg_len o ys[k]; omega⟩
  obtain ⟨o, h1, h2⟩ := key _ (Nat.le_refl _)
  exact ⟨o, h1.set rfl hp, by have := hp.length_eq; have := clip_len l; omega⟩
/-- The valid set of a list of ranges. -/
noncomputable def setOf (l : List Rg) : List Rg := Classical.choose (isSet_ex l)
theorem setOf_is (l : List Rg) : IsSet l (setOf l) := (Classical.choose_spec (isSet_ex l)).1
theorem setOf_len (l : List Rg) : (setOf l).length ≤ l.length := (Classical.choose_spec (isSet_ex l)).2
theorem IsSet.eq {l o : List Rg} (h : IsSet l o) : o = setOf l := h.uniq (setOf_is l)

/-- Is a number in one of the ranges, and a code point? -/
def hasB (l : List Rg) (c : Int) : Bool := decide (0 ≤ c ∧ c ≤ 1114111) && l.any fun r => decide (r.lo ≤ c ∧ c ≤ r.hi)
theorem hasB_iff (l : List Rg) (c : Int) : hasB l c = true ↔ InR c (clip l) := by
  unfold hasB InR
  simp only [Bool.and_eq_true, decide_eq_true_eq, List.any_eq_true]
  constructor
  · rintro ⟨⟨h1, h2⟩, r, hr, h3, h4⟩
    refine ⟨⟨max r.lo 0, min r.hi 1114111⟩, List.mem_flatMap.2 ⟨r, hr, ?_⟩, ?_, ?_⟩
    · rw [clip1, if_pos (by omega)]; simp
    · show max r.lo 0 ≤ c; omega
    · show c ≤ min r.hi 1114111; omega
  · rintro ⟨r, hr, h1, h2⟩
    obtain ⟨s, hs, h⟩ := List.mem_flatMap.1 hr
    unfold clip1 at h
    split at h
    · simp at h
      subst h
      simp at h1 h2
      exact ⟨by omega, s, hs, by omega⟩
    · cases h
theorem hasB_set (l : List Rg) (c : Int) : hasB l c = true ↔ InR c (setOf l) := (hasB_iff l c).trans ((setOf_is l).2 c).symm

/-- Which array the variable at B has. -/
def rowOf (W : World) (B : Nat) : Option Nat := (W.cell? ⟨B, 0, none⟩).bind Value.ownBlock
/-- What a body keeps that appends to the variable at B and does nothing else. -/
structure KpB (B : Nat) (W W' : World) : Prop where
  size : W.heap.size ≤ W'.heap.size
  same : ∀ k cs t fr, W.heap[k]? = some (.cells cs t fr) → k ≠ B → some k ≠ rowOf W B → W'.heap[k]? = W.heap[k]?
  row : rowOf W' B = rowOf W B ∨ ∃ g, rowOf W' B = some g ∧ W.heap.size ≤ g
theorem KpB.trans {B : Nat} {X Y Z : World} (h : KpB B X Y) (k : KpB B Y Z) : KpB B X Z where
  size := Nat.le_trans h.size k.size
  same j cs t fr hj h1 h2 := by
    have e := h.same j cs t fr hj h1 h2
    have hlt := (Array.getElem?_eq_some_iff.1 hj).1
    refine (k.same j cs t fr (e.trans hj) h1 ?_).trans e
    rcases h.row with r | ⟨g, r, hg⟩
    · rw [r]; exact h2
    · rw [r]; intro e; cases e; omega
  row := by
    rcases k.row with r | ⟨g, r, hg⟩
    · rcases h.row with r' | ⟨g, r', hg⟩
      · exact .inl (r.trans r')
      · exact .inr ⟨g, r.trans r', hg⟩
    · exact .inr ⟨g, r, Nat.le_trans h.size hg⟩
theorem KpB.of_below {B : Nat} {W W' : World} (hb : Below W.heap.size W W') (hB : B < W.heap.size) : KpB B W W' where
  size := hb.size
  same j cs t fr hj _ _ := hb.block j (Array.getElem?_eq_some_iff.1 hj).1
  row := .inl (by unfold rowOf; rw [hb.cell (p := ⟨B, 0, none⟩) hB])
theorem rd_kept {α : Type} {enc : α → List Value} {k : Nat} {W W' : World} {B b o n : Nat} {xs : List α} (h : Rd enc k W (some ⟨b, o, none⟩) n xs) (hk : KpB B W W') (h1 : b ≠ B) (h2 : some b ≠ rowOf W B) : Rd enc k W' (some ⟨b, o, none⟩) n xs := by
  refine ⟨h.len, h.le, fun hp => ?_⟩
  obtain ⟨b', o', e, hc⟩ := h.cells hp
  cases e
  refine ⟨b, o, rfl, fun i hi j u hu => ?_⟩
  have := hc i hi j u hu
  have hb : ∃ cs t fr, W.heap[b]? = some (.cells cs t fr) := by
    unfold World.cell? at this
    revert this
    cases e : W.heap[b]? with
    | none => simp [e]
    | some ob => cases ob <;> simp [e]
  obtain ⟨cs, t, fr, hb⟩ := hb
  have e := hk.same b cs t fr hb h1 h2
  unfold World.cell? at this ⊢
  simp only [e]
  exact this
end Go.Proofs.YtfeofhinpgodoaaGreatDoor

namespace Go.Proofs.YtfeofhinpgodoaaGreatDoor
open Go.RowKit Go.Shelf
attribute [local go_sem] Oper.semAt_some

def RgPost (o : List Rg) (J Jx : List Rg → World → Prop) (e : Ending) (W' : World) : Prop :=
  (∃ v, e = .returned v) ∧ (J o W' ∨ ∃ pre, Jx pre W')

theorem boxed_below {W W' : World} {B : Nat} {t : TypeId} {v : Value} (h : Boxed W B t v) (hb : Below W.heap.size W W') : Boxed W' B t v := (hb.block B h.lt).trans h
theorem box_no {W : World} {b off : Nat} {t : TypeId} {x : Int} (h : Boxed W b t (.slice none 0 0)) (e : W.cell? ⟨b, off, none⟩ = some (.int .i64 x)) : False := by
  unfold Boxed at h
  unfold World.cell? at e
  rw [h] at e
  match off with
  | 0 => simp at e
  | off + 1 => simp at e

set_option maxRecDepth 100000 in
set_option maxHeartbeats 2000000 in
theorem rngs_in (l Bs B : Nat) (A : Option Addr) (n c : Nat) (xs o : List Rg) (W : World) (hcell : W.cell? ⟨Bs, 0, none⟩ = some (.slice A n c)) (hR : RdRg W A n xs) (hbig : n ≤ 1000000)
    (hB : Boxed W B 24 (.slice none 0 0)) (ho : IsSet xs o) (J Jx : List Rg → World → Prop) (hJb : ∀ pre W W', J pre W → Below W.heap.size W W' → J pre W')
    (hY : ∀ pre x W, J pre W → x ∈ o → pre.length < o.length → YieldAt Fence.wide 3 Tryz.prog l #[.agg #[.int .i64 x.lo, .int .i64 x.hi]] W fun e W' =>
      (e = .returned (.bool true) ∧ J (pre ++ [x]) W' ∧ KpB B W W') ∨ (e = .returned (.bool false) ∧ Jx (pre ++ [x]) W'))
    (h0 : J [] W) :
    Calls Tryz.prog 137 #[.func (.yield l) #[] #[], .pointer (some ⟨Bs, 0, none⟩)] W (RgPost o J Jx) := by
  have HR := Lib.hid hR; have HB := Lib.hid hB; have HO := Lib.hid ho; have HJb := Lib.hid hJb; have HY := Lib.hid hY; have H0 := Lib.hid h0
  clear hR hB ho hJb hY h0
  have hfld : ∀ (A : Option Addr) (n c : Nat) (W : World), (Instr.field 26 (.agg #[.slice A n c]) 0).run Tryz.prog W = .ok (.slice A n c) W := fun A n c W => by kernel_rfl
  go_enter Tryz.func137, Tryz.ntmps137
  go_wp2_with fail
  refine (makeSet_any A n c xs _ HR.out hbig).mono ?_
  rintro e w1 ⟨A2, n2, c2, o2, h1, h2, rfl, hb⟩
  obtain rfl : o2 = o := h2.uniq HO.out
  have hn2 := h1.bd
  have HL := Lib.hid h1.len
  have HBx := HB; have HB1 := Lib.hid (bcel hb HB.out.cell)
  have HJ := Lib.hid (HJb.out _ _ _ H0.out hb)
  have HN : Hid (∀ b off, A2 = some ⟨b, off, none⟩ → 0 < n2 → b ≠ B ∧ some b ≠ rowOf w1 B) := by
    rintro b off rfl hp
    have hrow : rowOf w1 B = none := by unfold rowOf; rw [HB1.out]; rfl
    refine ⟨?_, by rw [hrow]; nofun⟩
    rintro rfl
    obtain ⟨b', off', e, hc⟩ := h1.cells hp
    cases e
    have e0 := hc 0 (by rw [h1.len]; exact hp) 0 _ rfl
    exact box_no (boxed_below HBx.out hb) e0
  have H1 := Lib.hid h1
  clear hb h1 h2 HR H0
  go_wp2_with fail
  go_loopw [10] (fun s1 wr => ∃ k : Nat, s1 = .int .i64 (k : Int) ∧ k ≤ n2 ∧ Hid (J (o2.take k) wr) ∧ Hid (RdRg wr A2 n2 o2) ∧ Hid (∀ b off, A2 = some ⟨b, off, none⟩ → 0 < n2 → b ≠ B ∧ some b ≠ rowOf wr B) ∧ Hid (B < wr.heap.size))
    (fun s1 _ => n2 - (intOf s1).toNat)
  case atStart => exact ⟨0, by go_num, by omega, HJ.out, H1.out, HN.out, World.block_lt_of_cell? w1 _ HB1.out⟩
  case round =>
    clear HJ H1 HN HB1
    obtain ⟨k, rfl, hk, HJ, H1, HN, HBl⟩ := hrel
    obtain ⟨wo, rfl⟩ : ∃ wo : World, wo = wr := ⟨_, rfl⟩
    by_cases hlt : k < n2
    · have hlt' : (k : Int) < (n2 : Int) := by omega
      obtain ⟨b, off, rfl⟩ := H1.out.addr (by omega)
      obtain ⟨lo, hi, hx, c0, c1⟩ := RdRg.elt H1.out hlt
      go_upto_region 3 with fail
      obtain ⟨w5, hw5⟩ : ∃ w5, w5 = wo.alloc (.cells #[.int .i64 lo, .int .i64 hi] 77) := ⟨_, rfl⟩
      rw [← hw5]
      have hb5 : Below wo.heap.size wo w5 := by rw [hw5]; exact (Below.refl _ _).alloc (Nat.le_refl _) _
      have f0 : w5.cell? ⟨wo.heap.size, 0, none⟩ = some (.int .i64 lo) := by rw [hw5]; go_simp
      have f1 : w5.cell? ⟨wo.heap.size, 1, none⟩ = some (.int .i64 hi) := by rw [hw5]; go_simp
      have hkp := KpB.of_below (B := B) hb5 HBl.out
      obtain ⟨hne, hrow⟩ := HN.out b off rfl (by omega)
      have hrd := rd_kept H1.out hkp hne hrow
      have hrow5 : some b ≠ rowOf w5 B := by unfold rowOf; rw [hb5.cell (p := ⟨B, 0, none⟩) HBl.out]; exact hrow
      have hlt5 : b < w5.heap.size := by
        have := World.block_lt_of_cell? wo _ c0
        exact Nat.lt_of_lt_of_le this hb5.size
      obtain ⟨fn, tmps, assign, body, hy, hR⟩ := HY.out (o2.take k) ⟨lo, hi⟩ w5 (HJb.out _ _ _ HJ.out hb5) (List.mem_of_getElem? hx.out) (by rw [List.length_take, HL.out]; omega)
      dsimp only at hy
      have HT := Lib.hid (show o2.take k ++ [⟨lo, hi⟩] = o2.take (k + 1) by rw [List.take_add_one, hx.out]; rfl)
      have HB5 := Lib.hid (show B < w5.heap.size from Nat.lt_of_lt_of_le HBl.out hb5.size)
      have HRD := Lib.hid hrd; have HNE := Lib.hid hne; have HROW := Lib.hid hrow5; have HL5 := Lib.hid hlt5
      clear hb5 hw5 hkp hne hrow hrd hrow5 hlt5 c0 c1 hx HJ H1 HN HBl
      refine (wpIn_wide (n := 4)).1 ?_
      gi_wp2
      refine hR.mono ?_
      rintro e W' (⟨rfl, hJ3, hK3⟩ | ⟨rfl, hJx⟩)
      · have HJ3 := Lib.hid (show J (o2.take (k + 1)) W' by rw [← HT.out]; exact hJ3)
        have HRD' := Lib.hid (rd_kept HRD.out hK3 HNE.out HROW.out)
        have HB' := Lib.hid (Nat.lt_of_lt_of_le HB5.out hK3.size)
        have HN' : Hid (∀ b' off', some (Addr.mk b off none) = some ⟨b', off', none⟩ → 0 < n2 → b' ≠ B ∧ some b' ≠ rowOf W' B) := by
          rintro b' off' e _
          cases e
          refine ⟨HNE.out, ?_⟩
          rcases hK3.row with r | ⟨g, r, hg⟩
          · rw [r]; exact HROW.out
          · rw [r]; intro e; cases e; have := HL5.out; omega
        clear hJ3 hK3
        gi_wp2
        go_wp2_with fail
        go_roundw
        case rel => exact ⟨k + 1, by go_num, by omega, HJ3.out, HRD'.out, HN'.out, HB'.out⟩
        case measure => simp [intOf]; omega
      · have HJx := Lib.hid hJx
        clear hJx
        gi_wp2
        go_wp2_with fail
        refine bodyPost_ret (results_none rfl _ _ _) rfl ?_
        exact ⟨⟨_, rfl⟩, .inr ⟨_, HJx.out⟩⟩
    · have e : k = n2 := by omega
      subst e
      have hlt' : ¬ (k : Int) < (k : Int) := by omega
      go_wp2_with fail
      go_end0
      exact ⟨⟨_, rfl⟩, .inl (by have := HJ.out; rwa [List.take_of_length_le (by rw [HL.out]; exact Nat.le_refl _)] at this)⟩

theorem rngs_stops (Bs B : Nat) (A : Option Addr) (n c : Nat) (xs : List Rg) (w : World) (hcell : w.cell? ⟨Bs, 0, none⟩ = some (.slice A n c)) (hR : RdRg w A n xs) (hbig : n ≤ 1000000) (hB : Boxed w B 24 (.slice none 0 0)) :
    SeqStopsK Fence.wide 4 Tryz.prog 137 #[.pointer (some ⟨Bs, 0, none⟩)] (fun x : { x : Rg // x ∈ setOf xs } => #[.agg #[.int .i64 x.1.lo, .int .i64 x.1.hi]])
      (KpB B) (fun ys => ys.map (·.1) = setOf xs) (fun _ => True) (setOf xs).length w := fun l J Jx W hW hJ hJx hY h0 => by
  refine callsIn_wide.2 ((rngs_in l Bs B A n c xs (setOf xs) W (bcel hW hcell) (hR.below hW) hbig (boxed_below hB hW) (setOf_is xs)
    (fun pre W => ∃ p : List { x : Rg // x ∈ setOf xs }, p.map (·.1) = pre ∧ J p W) (fun pre W => ∃ p : List { x : Rg // x ∈ setOf xs }, p.map (·.1) = pre ∧ Jx p W)
    (fun pre W W' ⟨p, e, h⟩ hb => ⟨p, e, hJ p W W' none h ⟨hb.os, hb.tape, hb.output, hb.size, fun i hi _ => hb.block i hi⟩ (fun r e => by cases e)⟩) ?_ ⟨[], rfl, h0⟩).mono ?_)
  · rintro pre x W1 ⟨p, rfl, hp⟩ hx hlt
    obtain ⟨fn, tmps, assign, body, hy, hRd⟩ := hY p ⟨x, hx⟩ W1 hp (by simpa using hlt)
    refine ⟨fn, tmps, assign, body, hy, hRd.mono ?_⟩
    rintro e W' (⟨h1, h2, h3⟩ | ⟨h1, h2⟩)
    · exact .inl ⟨h1, ⟨_, by simp, h2⟩, h3⟩
    · exact .inr ⟨h1, _, by simp, h2⟩
  · rintro e W' ⟨hv, ⟨p, e1, h1⟩ | ⟨pre, p, e1, h1⟩⟩
    · exact ⟨hv, .inl ⟨p, e1, h1⟩⟩
    · exact ⟨hv, .inr ⟨p, trivial, h1⟩⟩

theorem below_of_grown {S0 : Nat} {W W' : World} {row : Option Nat} (hS : S0 ≤ W.heap.size) (hg : W.grownBy W' row) (hr : ∀ r, row = some r → S0 ≤ r) : Below S0 W W' := (Below.refl S0 W).grown hg hS hr

/-- A slice of ranges that is handed back. -/
def RgsPost (Q : List Rg → Prop) (w : World) (e : Ending) (w' : World) : Prop := ∃ A n c ys, RdRg w' A n ys ∧ Q ys ∧ e = .returned (.slice A n c) ∧ Below w.heap.size w w'

set_option maxRecDepth 100000 in
set_option maxHeartbeats 2000000 in
theorem appendSeq_any (Bs : Nat) (A : Option Addr) (n c : Nat) (xs : List Rg) (w : World) (hcell : w.cell? ⟨Bs, 0, none⟩ = some (.slice A n c)) (hR : RdRg w A n xs) (hbig : n ≤ 1000000) :
    Calls Tryz.prog 136 #[.slice none 0 0, .func (.func 137) #[] #[.pointer (some ⟨Bs, 0, none⟩)]] w (RgsPost (fun ys => ys = setOf xs) w) := by
  have HC := Lib.hid hcell; have HR := Lib.hid hR
  clear hcell
  refine callsIn_wide.1 (callsIn_of_wp_marks (F := Fence.wide) (n := 5) Tryz.func136 rfl trivial ?_ rfl)
  simp only [Tryz.ntmps136, List.size_toArray, List.length_cons, List.length_nil, Nat.reduceAdd, Nat.reduceSub, Array.replicate_succ, Array.replicate_zero, List.push_toArray, List.append_toArray, List.nil_append, List.cons_append]
  obtain ⟨i0, hi, hz0, hz1, hz2⟩ := info_parts infoRg
  have bS := Boxed.new w 24 (.slice none 0 0)
  have hb1 := (Below.refl w.heap.size w).alloc (Nat.le_refl _) (.cells #[.slice none 0 0] 24)
  have HN := Lib.hid (show (setOf xs).length ≤ n by have := setOf_len xs; have := hR.len; omega)
  have HB1 := Lib.hid hb1
  have BS := Lib.hid bS
  clear hb1 bS hR
  gi_wp2_with fail
  refine wpIn_rangeFunc_ownH rfl (by omega) (gf := 137) (lb := #[.pointer (some ⟨Bs, 0, none⟩)]) rfl trivial (enters_of Tryz.func137 (by kernel_rfl) rfl)
    (rngs_stops Bs w.heap.size A n c xs _ (bcel HB1.out HC.out) (HR.out.below HB1.out) hbig BS.out) (fun h k => h.trans k) ?hKb (Below.refl _ _) (fun _ => rfl)
    (fun pre W => (∃ v, Boxed W w.heap.size 24 v ∧ W.ownsRow w.heap.size 77 2 v pre.length ((pre.map (·.1)).flatMap encRg)) ∧ Below w.heap.size w W ∧ w.heap.size + 1 ≤ W.heap.size)
    (fun _ _ _ => False) ?hI (fun _ _ _ _ _ hs _ _ => hs) ⟨⟨_, BS.out, by exact World.ownsRow_nil _ _ _ _⟩, HB1.out, by simp⟩
    (fun x a' W => ∃ Bx, w.heap.size + 1 ≤ Bx ∧ W.cell? ⟨Bx, 0, none⟩ = some (.int .i64 x.1.lo) ∧ W.cell? ⟨Bx, 1, none⟩ = some (.int .i64 x.1.hi) ∧
      a' = { tmps := #[.slice none 0 0, .func (.func 137) #[] #[.pointer (some ⟨Bs, 0, none⟩)], .pointer (some ⟨w.heap.size, 0, none⟩), undef, .slice none 0 0, .pointer (some ⟨Bx, 0, none⟩),
        .func (.func 137) #[] #[.pointer (some ⟨Bs, 0, none⟩)], .agg #[.int .i64 x.1.lo, .int .i64 x.1.hi], undef, undef, undef, undef, undef], defers := [] })
    ?hAx ?assign ?body ?done ?stop
  case hKb =>
    intro W lb o o' hl ho hoc hw
    refine ⟨by simp, fun k cs t fr hk h1 h2 => ?_, .inl ?_⟩
    · have hne : k ≠ lb := by rintro rfl; rw [ho] at hk; cases hk; cases hoc
      exact (grownBy_putObj' W lb o').block k (Array.getElem?_eq_some_iff.1 hk).1 (by intro e; cases e; exact hne rfl)
    · unfold rowOf
      have : (W.putObj lb o').cell? ⟨w.heap.size, 0, none⟩ = W.cell? ⟨w.heap.size, 0, none⟩ := by
        have hne : w.heap.size ≠ lb := by simp at hl; omega
        unfold World.cell?
        by_cases hlt : w.heap.size < W.heap.size
        · rw [(grownBy_putObj' W lb o').block w.heap.size hlt (by intro e; cases e; exact hne rfl)]
        · have := (Array.getElem?_eq_some_iff.1 ho).1
          simp at hl
          omega
      rw [this]
  case hI =>
    intro pre W W' row ⟨⟨v, h1, h2⟩, h3, h4⟩ hg hr
    have hb : Below (w.heap.size + 1) W W' := below_of_grown h4 hg (fun r e => by have := (hr r e).1; simpa using this)
    refine ⟨⟨v, h1.kept hg (fun e => ?_), h2.kept hg ?_⟩, h3.trans (hb.mono (by omega)), Nat.le_trans h4 hb.size⟩
    · have := (hr _ e.symm).1; rw [World.size_alloc] at this; omega
    · rcases h2.2 with ⟨rfl, _⟩ | ⟨gg, cap', cur, rfl, _, hgg, _⟩
      · exact .inl rfl
      · refine .inr fun e => ?_
        obtain ⟨_, o, ho, hc⟩ := hr gg (by rw [← e]; rfl)
        rw [hgg] at ho; cases ho; cases hc
  case hAx =>
    intro x a' _ W W' row ⟨Bx, h1, h2, h3, h4⟩ hg hr
    exact ⟨Bx, h1, cell_kept h2 hg (fun r e => (hr r e).2), cell_kept h3 hg (fun r e => (hr r e).2), h4⟩
  case assign =>
    rintro lb pre x W K ⟨⟨v, h1, h2⟩, h3, h4⟩ hK
    gi_wp2
    have hb' := (Below.refl W.heap.size W).alloc (Nat.le_refl _) (.cells #[.int .i64 x.1.lo, .int .i64 x.1.hi] 77)
    exact hK _ _ ((KeepsOthers.alloc _ _).from _) (KpB.of_below hb' (by omega)) ⟨⟨v, h1.alloc _, h2.alloc _⟩, h3.alloc h3.size _, by simp; omega⟩ ⟨W.heap.size, h4, by go_simp, by go_simp, rfl⟩
  case body =>
    rintro lb pre x a' W hlb hrec ⟨⟨v, hv, hrow⟩, hB, hS⟩ ⟨Bx, hBx, hc1, hc2, rfl⟩ hlt
    have hle : w.heap.size ≤ W.heap.size := hB.size
    have hcell := hv.cell
    have hfz := hv.frozen
    have hkk : pre.length < 1000000000 := by have := HN.out; omega
    have HV := Lib.hid hv; have HRow := Lib.hid hrow; have HB := Lib.hid hB
    have HrO := Lib.hid (show rowOf W w.heap.size = v.ownBlock by unfold rowOf; rw [hcell]; rfl)
    clear hv hrow hB hrec
    gi_wp2_with (gi_at_builtin; refine wpListIn_append_own_at (w := W.alloc (.cells #[.int .i64 x.1.lo, .int .i64 x.1.hi] 77)) rfl _ _ 24 rfl w.heap.size 77 i0 (.agg #[.int .i64 0, .int .i64 0]) 2 16 Tryz.underlying24 hi hz0 hz1 hz2 rfl (by decide) _ pre.length _ rfl (HRow.out.alloc _) ⟨W.heap.size, 0, none⟩ 1 1 [.int .i64 x.1.lo, .int .i64 x.1.hi] rfl rfl (World.news_of_block (cs := #[.int .i64 x.1.lo, .int .i64 x.1.hi]) (t := 77) (fr := (0, 0)) (heap_alloc_new W _)) (by intro u hu; simp at hu; rcases hu with rfl | rfl <;> rfl) (by simp only [maxLen]; omega) (by omega) (by simp; omega) ?_; intro v' w4 hown' hgrow hnil hat; obtain ⟨g', cap', rfl⟩ := ownsRow_succ hown'; obtain ⟨hv1, hv2, hr2, hk2, hb2⟩ := HV.out.appended (by decide) HRow.out hle (Nat.le_refl _) hown' hgrow; have hc1' := hv1.cell; have hf1' := hv1.frozen; have HAT := Lib.hid (And.intro hgrow hat); have FIN := Lib.hid (And.intro hv2 (And.intro hr2 (And.intro hk2 hb2))); clear hown' hgrow hnil hat hv1 hv2 hr2 hk2 hb2)
    obtain ⟨hv2, hr2, hk2, hb2⟩ := FIN.out
    have hb3 := HB.out.trans hb2
    obtain ⟨hgr, hat⟩ := HAT.out
    refine ⟨hk2.from _, ⟨hk2.size, fun k cs t fr hk h1 h2 => ?_, ?_⟩, ⟨⟨_, hv2, ?_⟩, hb3, ?_⟩⟩
    · have hkl := (Array.getElem?_eq_some_iff.1 hk).1
      rw [HrO.out] at h2
      rw [(grownBy_setCell' w4 w.heap.size _).block k (Nat.lt_of_lt_of_le (by simp; omega) hgr.size) (by intro e; cases e; exact h1 rfl),
        hgr.block k (by simp; omega) h2]
      exact Below.heap_alloc W _ k hkl
    · have hrw : rowOf (w4.setCell ⟨w.heap.size, 0, none⟩ (.slice (some ⟨g', 0, none⟩) (pre.length + 1) cap')) w.heap.size = some g' := by unfold rowOf; rw [hv2.cell]; rfl
      rcases hat with e | e
      · exact .inl (by rw [hrw, HrO.out]; exact e)
      · refine .inr ⟨g', hrw, ?_⟩
        have : g' = (W.alloc (.cells #[.int .i64 x.1.lo, .int .i64 x.1.hi] 77)).heap.size := by simpa [Value.ownBlock] using e
        rw [this]; simp
    · have e : ((pre ++ [x]).map (·.1)).flatMap encRg = (pre.map (·.1)).flatMap encRg ++ [.int .i64 x.1.lo, .int .i64 x.1.hi] := by simp [encRg]
      rw [e, List.length_append]
      exact hr2
    · exact Nat.le_trans hS hk2.size
  case done =>
    rintro D xs' W hD hxs ⟨⟨v, hv, hrow⟩, hB, hS⟩ hK
    have hl : xs'.length = (setOf xs).length := by have := congrArg List.length hxs; simpa using this
    rw [hxs, hl] at hrow
    clear hl
    have hcell := hv.cell
    obtain ⟨A3, c3, rfl, hrd⟩ := own_rd encRg_len (by omega) hrow (by have := HN.out; omega)
    have HRd := Lib.hid hrd; have HB := Lib.hid hB; have HV := Lib.hid hv
    clear hrd hv hrow hB
    gi_wp2_with fail
    refine ⟨by simp, .inl ⟨_, _, rfl, run_takeDeferred hK, ?_⟩⟩
    refine ⟨_, results_tmp rfl _ _ _, ?_⟩
    have hb : Below (w.heap.size + 1) W (W.putObj D (.deferred none)) := below_of_grown hS (grownBy_putObj' W D _) (fun r e => by cases e; simpa using hD)
    refine ⟨A3, (setOf xs).length, c3, setOf xs, ?_, rfl, rfl, HB.out.trans (hb.mono (by omega))⟩
    refine ⟨HRd.out.len, HRd.out.le, fun hp => ?_⟩
    obtain ⟨b, o, e1, hcs⟩ := HRd.out.cells hp
    refine ⟨b, o, e1, fun i hi j u hu => ?_⟩
    exact cell_kept (hcs i hi j u hu) (grownBy_putObj' W D (.deferred none)) (fun r e => by cases e; exact ⟨_, hK, rfl⟩)
  case stop =>
    rintro D c pre W _ _ h _
    exact h.elim
end Go.Proofs.YtfeofhinpgodoaaGreatDoor

namespace Go.Proofs.YtfeofhinpgodoaaGreatDoor
open Go.RowKit Go.Shelf

set_option maxHeartbeats 400000 in
theorem collect_any (Bs : Nat) (A : Option Addr) (n c : Nat) (xs : List Rg) (w : World) (hcell : w.cell? ⟨Bs, 0, none⟩ = some (.slice A n c)) (hR : RdRg w A n xs) (hbig : n ≤ 1000000) :
    Calls Tryz.prog 103 #[.func (.func 137) #[] #[.pointer (some ⟨Bs, 0, none⟩)]] w (RgsPost (fun ys => ys = setOf xs) w) := by
  have HC := Lib.hid hcell; have HR := Lib.hid hR
  clear hcell hR
  go_enter Tryz.func103, Tryz.ntmps103
  go_wp2_with (go_at_call 136; refine (appendSeq_any Bs A n c xs _ HC.out HR.out hbig).mono ?_; rintro e w1 ⟨A2, n2, c2, ys, h1, h2, rfl, h3⟩; have H1 := Lib.hid h1; have H2 := Lib.hid h2; have H3 := Lib.hid h3; clear h1 h2 h3)
  go_ret
  exact ⟨A2, n2, c2, ys, H1.out, H2.out, rfl, H3.out⟩

set_option maxHeartbeats 400000 in
theorem rhi_any (b o n c B1 B2 : Nat) (k : Nat) (x hi : Int) (w : World) (h1 : k < n)
   (hc : w.cell? ⟨B1, 0, none⟩ = some (.slice (some ⟨b, o, none⟩) n c)) (hx : w.cell? ⟨B2, 0, none⟩ = some (.int .i64 x))
   (hcell : w.cell? ⟨b, o + k * 2 + 1, none⟩ = some (.int .i64 hi)) :
    Calls Tryz.prog 106 #[.int .i64 k, .pointer (some ⟨B1, 0, none⟩), .pointer (some ⟨B2, 0, none⟩)] w fun e w' => e = .returned (.bool (decide (x ≤ hi))) ∧ Below w.heap.size w w' := by
  have h1' : (k : Int) < (n : Int) := by omega
  go_enter Tryz.func106, Tryz.ntmps106
  go_wp2
  go_quiet (fail)
  go_wp2
  go_ret
  exact ⟨rfl, bdrewN (Below.refl _ _) _⟩

theorem rlow_step {l : List Rg} {m : Nat} {lo hi x : Int} (hs : Hid (l[m]? = some ⟨lo, hi⟩)) (hx : hi < x) : Hid (∀ (q : Nat) (s : Rg), q + 1 = m + 1 → l[q]? = some s → s.hi < x) := by
  intro q s h k
  obtain rfl : q = m := by omega
  rw [hs.out] at k; cases k; show hi < x; omega
set_option maxHeartbeats 1000000 in
theorem rsearch_any (A : Option Addr) (n cp B1 B2 : Nat) (x : Int) (l : List Rg) (w : World) (hR : RdRg w A n l)
   (hc : w.cell? ⟨B1, 0, none⟩ = some (.slice A n cp)) (hx : w.cell? ⟨B2, 0, none⟩ = some (.int .i64 x)) :
    Calls Tryz.prog 95 #[.int .i64 n, .func (.func 106) #[] #[.pointer (some ⟨B1, 0, none⟩), .pointer (some ⟨B2, 0, none⟩)]] w fun e w' =>
      ∃ r : Nat, (r ≤ n ∧ (∀ (i : Nat) (s : Rg), i + 1 = r → l[i]? = some s → s.hi < x) ∧ (∀ s, l[r]? = some s → x ≤ s.hi)) ∧ e = .returned (.int .i64 r) ∧ Below w.heap.size w w' := by
  have hn := hR.bd
  have HR := Lib.hid hR
  have HC := Lib.hid hc; have HX := Lib.hid hx
  have hlen := Lib.hid hR.len
  clear hR hc hx
  go_enter Tryz.func95, Tryz.ntmps95
  go_wp2_with fail
  go_loopw [5, 6] (fun u v wr => ∃ i j : Nat, i ≤ j ∧ j ≤ n ∧ u = .int .i64 i ∧ v = .int .i64 j ∧ Hid (∀ (q : Nat) (s : Rg), q + 1 = i → l[q]? = some s → s.hi < x) ∧ Hid (∀ s, l[j]? = some s → x ≤ s.hi) ∧ Below w.heap.size w wr)
    (fun u v _ => (intOf v - intOf u).toNat)
  case atStart => exact ⟨0, n, by omega, by omega, rfl, rfl, fun q s h => absurd h (by omega), fun s h => by have := (List.getElem?_eq_some_iff.1 h).1; rw [hlen.out] at this; omega, Below.refl _ _⟩
  case round =>
    obtain ⟨i, j, hij, hjn, rfl, rfl, HL, HU, hB⟩ := hrel
    by_cases hlt : i < j
    · obtain ⟨m, hm⟩ : ∃ m : Nat, m = (i + j) / 2 := ⟨_, rfl⟩
      have Hm := Lib.hid (show ((i : Int) + (j : Int)) / 2 = (m : Int) by omega)
      have him : i ≤ m := by omega
      have hmj : m < j := by omega
      clear hm
      have hmn : m < n := by omega
      obtain ⟨b, o, rfl⟩ := HR.out.addr (by omega)
      obtain ⟨lo, hi, hs, c0, c1⟩ := RdRg.elt (HR.out.below hB) hmn
      have HC1 := Lib.hid c1
      have HB := Lib.hid hB
      clear c0 c1 hB
      by_cases hx : x ≤ hi
      · have hd := decide_eq_true hx
        go_wp2_with (go_at_call 106; rw [Hm.out]; refine (rhi_any b o n cp B1 B2 m x hi _ hmn (bcel HB.out HC.out) (bcel HB.out HX.out) HC1.out).mono ?_; rintro e w1 ⟨rfl, hb⟩; rw [hd])
        go_roundw
        case rel => exact ⟨i, m, by omega, by omega, rfl, rfl, HL, (fun s h => by rw [hs.out] at h; cases h; exact hx), bthen HB.out hb⟩
        case measure => simp [intOf]; omega
      · have hd := decide_eq_false hx
        go_wp2_with (go_at_call 106; rw [Hm.out]; refine (rhi_any b o n cp B1 B2 m x hi _ hmn (bcel HB.out HC.out) (bcel HB.out HX.out) HC1.out).mono ?_; rintro e w1 ⟨rfl, hb⟩; rw [hd])
        go_roundw
        case rel => exact ⟨m + 1, j, by omega, by omega, by go_num, rfl, rlow_step hs (by omega), HU, bthen HB.out hb⟩
        case measure => simp [intOf]; omega
    · have e : i = j := by omega
      subst e
      go_wp2_with fail
      go_ret
      exact ⟨i, ⟨by omega, HL.out, HU.out⟩, rfl, hB⟩

theorem canon_asc : ∀ {l : List Rg}, Canon l → ∀ (i j : Nat) (a b : Rg), i < j → l[i]? = some a → l[j]? = some b → a.hi < b.lo
  | [], _, i, j, a, b, _, ha, _ => by simp at ha
  | r :: t, h, 0, j + 1, a, b, _, ha, hb => by
    simp at ha hb
    subst ha
    have := h.2.1 b (List.mem_of_getElem? hb)
    omega
  | r :: t, h, i + 1, j + 1, a, b, hij, ha, hb => canon_asc h.2.2 i j a b (by omega) (by simpa using ha) (by simpa using hb)
theorem canon_ok : ∀ {l : List Rg}, Canon l → ∀ r ∈ l, OkR r
  | r :: t, h, s, hs => by
    rcases List.mem_cons.1 hs with rfl | hs
    · exact h.1
    · exact canon_ok h.2.2 s hs
theorem has_found {l : List Rg} {x : Int} {r : Nat} {s : Rg} (hs : (setOf l)[r]? = some s) (h1 : s.lo ≤ x) (h2 : x ≤ s.hi) : hasB l x = true :=
  (hasB_set l x).2 ⟨s, List.mem_of_getElem? hs, h1, h2⟩
theorem has_out {l : List Rg} {x : Int} {r : Nat} (hrl : r ≤ (setOf l).length) (hL : ∀ (i : Nat) (s : Rg), i + 1 = r → (setOf l)[i]? = some s → s.hi < x) (hno : ∀ s, (setOf l)[r]? = some s → x < s.lo) : hasB l x = false := by
  have hc := (setOf_is l).1
  rw [← Bool.not_eq_true, hasB_set]
  rintro ⟨s, hs, h1, h2⟩
  obtain ⟨i, hi⟩ := List.mem_iff_getElem?.1 hs
  have hil := (List.getElem?_eq_some_iff.1 hi).1
  rcases Nat.lt_trichotomy i r with h | h | h
  · by_cases e : i + 1 = r
    · have := hL i s e hi; omega
    · have hr1 : r - 1 < (setOf l).length := by omega
      have e1 := hL (r - 1) _ (by omega) (List.getElem?_eq_getElem hr1)
      have e2 := canon_asc hc i (r - 1) s _ (by omega) hi (List.getElem?_eq_getElem hr1)
      have e3 := canon_ok hc _ (List.getElem_mem hr1)
      have := e3.2.1
      omega
  · subst h; have := hno s hi; omega
  · have hr : r < (setOf l).length := by omega
    have e1 := hno _ (List.getElem?_eq_getElem hr)
    have e2 := canon_asc hc r i _ s h (List.getElem?_eq_getElem hr) hi
    have e3 := canon_ok hc _ (List.getElem_mem hr)
    have := e3.2.1
    omega

set_option maxHeartbeats 1000000 in
theorem rfind1_any (A : Option Addr) (n cp B : Nat) (x : Int) (l : List Rg) (w : World) (hR : RdRg w A n (setOf l))
   (hc : w.cell? ⟨B, 0, none⟩ = some (.slice A n cp)) :
    Calls Tryz.prog 105 #[.int .i64 x, .pointer (some ⟨B, 0, none⟩)] w fun e w' => e = .returned (.bool (hasB l x)) ∧ Below w.heap.size w w' := by
  have hn := hR.bd
  have HR := Lib.hid hR
  have HC := Lib.hid hc
  have hlen := Lib.hid hR.len
  have hBs := World.block_lt_of_cell? w _ hc
  have hBs' : B < w.heap.size := hBs
  clear hR hBs
  go_enter Tryz.func105, Tryz.ntmps105
  go_wp2_with (go_at_call 95; refine (rsearch_any A n cp B w.heap.size x (setOf l) _ (HR.out.below ((Below.refl _ _).alloc (Nat.le_refl _) _)) (by go_simp) (by go_simp)).mono ?_; rintro e w1 ⟨r, ⟨hr, hL, hU⟩, rfl, hb⟩; have HL := Lib.hid hL; have HU := Lib.hid hU; clear hL hU)
  have hb0 := bthen ((Below.refl _ _).alloc (Nat.le_refl _) _) hb
  have hc1 := bcel hb0 hc
  have hx1 : w1.cell? ⟨w.heap.size, 0, none⟩ = some (.int .i64 x) := bcel hb (by go_simp)
  have hB1 : B < w1.heap.size := Nat.lt_of_lt_of_le hBs' hb0.size
  have HB := Lib.hid hb0
  have HR1 := Lib.hid (HR.out.below hb0)
  clear hb hb0 hc HC HR
  by_cases hlt : r < n
  · obtain ⟨b, o, rfl⟩ := HR1.out.addr (by omega)
    obtain ⟨lo, hi, hs, c0, c1⟩ := RdRg.elt HR1.out hlt
    have hlt' : (r : Int) < (n : Int) := by omega
    have hU := HU.out _ hs.out
    replace hU : x ≤ hi := hU
    by_cases hlo : lo ≤ x
    · have hf := Lib.hid (has_found hs.out hlo hU)
      go_quiet (fail)
      go_wp2
      go_ret
      exact ⟨ret_bool hf.out.symm, bdrewN HB.out _⟩
    · have hf := Lib.hid (has_out (by rw [hlen.out]; exact hr) HL.out (fun s h => by rw [hs.out] at h; cases h; show x < lo; omega))
      have hd := decide_eq_false hlo
      go_quiet (fail)
      go_wp2
      go_ret
      exact ⟨ret_bool hf.out.symm, bdrewN HB.out _⟩
  · have hd : decide ((r : Int) < (n : Int)) = false := decide_eq_false (by omega)
    have hf := Lib.hid (has_out (by rw [hlen.out]; exact hr) HL.out (fun s h => by have := (List.getElem?_eq_some_iff.1 h).1; rw [hlen.out] at this; omega))
    go_quiet (fail)
    go_wp2
    go_ret
    exact ⟨ret_bool hf.out.symm, bdrewN HB.out _⟩

set_option maxHeartbeats 400000 in
theorem ranges_any (A : Option Addr) (n c : Nat) (w : World) :
    Calls Tryz.prog 104 #[.agg #[.slice A n c]] w fun e w' =>
      e = .returned (.func (.func 137) #[] #[.pointer (some ⟨w.heap.size, 0, none⟩)]) ∧ w' = w.alloc (.cells #[.slice A n c] 26) := by
  go_enter Tryz.func104, Tryz.ntmps104
  go_wp2
  go_ret
  exact ⟨rfl, rfl⟩

set_option maxHeartbeats 400000 in
theorem rfinder_any (A : Option Addr) (n c : Nat) (l : List Rg) (w : World) (hR : RdRg w A n l) (hbig : n ≤ 1000000) :
    Calls Tryz.prog 75 #[.agg #[.slice A n c]] w fun e w' =>
      ∃ B A2 n2 c2, e = .returned (.func (.func 105) #[] #[.pointer (some ⟨B, 0, none⟩)]) ∧ w'.cell? ⟨B, 0, none⟩ = some (.slice A2 n2 c2) ∧ RdRg w' A2 n2 (setOf l) ∧ Below w.heap.size w w' := by
  have HR := Lib.hid hR
  clear hR
  go_enter Tryz.func75, Tryz.ntmps75
  go_wp2_with fail
  refine (ranges_any A n c _).mono ?_
  rintro e w1 ⟨rfl, hw1⟩
  have hb1 : Below w.heap.size w w1 := by rw [hw1]; exact ((Below.refl _ _).alloc (Nat.le_refl _) _).alloc (by simp) _
  have hc1 : w1.cell? ⟨w.heap.size + 1, 0, none⟩ = some (.slice A n c) := by rw [hw1]; go_simp
  have HB1 := Lib.hid hb1; have HC1 := Lib.hid hc1
  clear hb1 hc1 hw1
  go_wp2_with fail
  refine (collect_any (w.heap.size + 1) A n c l _ HC1.out (HR.out.below HB1.out) hbig).mono ?_
  rintro e w2 ⟨A2, n2, c2, ys, h1, rfl, rfl, hb2⟩
  have H1 := Lib.hid h1; have HB2 := Lib.hid (bthen HB1.out hb2)
  clear h1 hb2
  go_wp2_with fail
  go_ret
  refine ⟨_, A2, n2, c2, rfl, by go_simp, H1.out.below (ba _ _), HB2.out.alloc HB2.out.size _⟩

set_option maxHeartbeats 400000 in
theorem has_any (A : Option Addr) (n c : Nat) (x : Int) (l : List Rg) (w : World) (hR : RdRg w A n l) (hbig : n ≤ 1000000) :
    Calls Tryz.prog 55 #[.agg #[.slice A n c], .int .i64 x] w fun e w' => e = .returned (.bool (hasB l x)) ∧ Below w.heap.size w w' := by
  have HR := Lib.hid hR
  clear hR
  go_enter Tryz.func55, Tryz.ntmps55
  go_wp2_with fail
  refine (rfinder_any A n c l _ (HR.out.below (ba _ _)) hbig).mono ?_
  rintro e w1 ⟨B, A2, n2, c2, rfl, hc1, h1, hb1⟩
  have H1 := Lib.hid h1; have HB1 := Lib.hid hb1; have HC1 := Lib.hid hc1
  have he' : ∀ args w, (callFunc 105 args).run Tryz.prog w = .ok (.enter 105 args) w := enters_of Tryz.func105 (by kernel_rfl) rfl
  clear h1 hb1 hc1
  go_wp2_with fail
  refine (rfind1_any A2 n2 c2 B x l w1 H1.out HC1.out).mono ?_
  rintro e w2 ⟨rfl, hb2⟩
  go_wp2_with fail
  go_ret
  exact ⟨rfl, bthen (bthen (ba _ _) HB1.out) hb2⟩
end Go.Proofs.YtfeofhinpgodoaaGreatDoor

namespace Go.Proofs.YtfeofhinpgodoaaGreatDoor
open Go.RowKit Go.Shelf

/-- May a mapping give a primary composite? -/
def comp1 (sp : List Sp) (ex : List Rg) (m : Mp) : Bool :=
  decide (m.tag.size = 0) && (match m.to with | [a, _] => decide (cls sp m.frm = 0) && (decide (cls sp a = 0) && !hasB ex m.frm) | _ => false)
/-- One mapping more. -/
def cstep (sp : List Sp) (ex : List Rg) (kv : List ((Int × Int) × Value)) (m : Mp) : List ((Int × Int) × Value) :=
  match m.to with
  | [a, b] => if comp1 sp ex m = true ∧ hcomp a b = none then
      (match look kv (a, b) with
      | some (.int .i64 c) => if m.frm < c then put kv (a, b) (.int .i64 m.frm) else kv
      | _ => put kv (a, b) (.int .i64 m.frm)) else kv
  | _ => kv
def compM (sp : List Sp) (ex : List Rg) (l : List Mp) : List ((Int × Int) × Value) := l.foldl (cstep sp ex) []
theorem compM_step {sp : List Sp} {ex : List Rg} {l : List Mp} {k : Nat} {m : Mp} (h : l[k]? = some m) : compM sp ex (l.take (k + 1)) = cstep sp ex (compM sp ex (l.take k)) m := by
  rw [List.take_add_one, h]; simp [compM]
/-- The values are integers. -/
def IntV (kv : List ((Int × Int) × Value)) : Prop := ∀ p ∈ kv, ∃ c, p.2 = .int .i64 c
theorem intV_put {kv : List ((Int × Int) × Value)} (h : IntV kv) (p : Int × Int) (c : Int) : IntV (put kv p (.int .i64 c)) := by
  induction kv with
  | nil => intro x hx; simp [put] at hx; subst hx; exact ⟨c, rfl⟩
  | cons y r ih =>
    intro x hx
    rw [put] at hx
    split at hx
    · rcases List.mem_cons.1 hx with rfl | hx
      · exact ⟨c, rfl⟩
      · exact h x (by simp [hx])
    · rcases List.mem_cons.1 hx with rfl | hx
      · exact h _ (by simp)
      · exact ih (fun z hz => h z (by simp [hz])) x hx
theorem cstep_int {sp : List Sp} {ex : List Rg} {kv : List ((Int × Int) × Value)} {m : Mp} (h : IntV kv) : IntV (cstep sp ex kv m) := by
  unfold cstep
  repeat' split
  all_goals first | exact h | exact intV_put h _ _
theorem compM_int (sp : List Sp) (ex : List Rg) : ∀ (l : List Mp), IntV (compM sp ex l) := by
  suffices ∀ (l : List Mp) (kv : List ((Int × Int) × Value)), IntV kv → IntV (l.foldl (cstep sp ex) kv) from fun l => this l [] (fun _ h => by cases h)
  intro l
  induction l with
  | nil => exact fun kv h => h
  | cons m t ih => exact fun kv h => ih _ (cstep_int h)
theorem look_int {kv : List ((Int × Int) × Value)} (h : IntV kv) {p : Int × Int} {v : Value} (e : look kv p = some v) : ∃ c, v = .int .i64 c := h _ (look_some_mem e)
theorem cstep_no {sp : List Sp} {ex : List Rg} {kv : List ((Int × Int) × Value)} {m : Mp} (h : comp1 sp ex m = false) : cstep sp ex kv m = kv := by
  unfold cstep
  split
  · rw [if_neg (by rw [h]; simp)]
  · rfl
theorem cstep_h {sp : List Sp} {ex : List Rg} {kv : List ((Int × Int) × Value)} {m : Mp} {a b : Int} (hm : m.to = [a, b]) (h : hcomp a b ≠ none) : cstep sp ex kv m = kv := by
  unfold cstep
  split
  · rename_i a' b' e
    rw [hm] at e; cases e
    rw [if_neg (fun h' => h h'.2)]
  · rfl
theorem cstep_new {sp : List Sp} {ex : List Rg} {kv : List ((Int × Int) × Value)} {m : Mp} {a b : Int} (hm : m.to = [a, b]) (hc : comp1 sp ex m = true) (h : hcomp a b = none) (hl : look kv (a, b) = none) : cstep sp ex kv m = put kv (a, b) (.int .i64 m.frm) := by
  unfold cstep
  rw [hm]
  simp only [hc, h, hl, and_self, if_true]
theorem cstep_less {sp : List Sp} {ex : List Rg} {kv : List ((Int × Int) × Value)} {m : Mp} {a b c : Int} (hm : m.to = [a, b]) (hc : comp1 sp ex m = true) (h : hcomp a b = none) (hl : look kv (a, b) = some (.int .i64 c)) :
    cstep sp ex kv m = if m.frm < c then put kv (a, b) (.int .i64 m.frm) else kv := by
  unfold cstep
  rw [hm]
  simp only [hc, h, hl, and_self, if_true]
end Go.Proofs.YtfeofhinpgodoaaGreatDoor

namespace Go.Proofs.YtfeofhinpgodoaaGreatDoor
open Go.RowKit Go.Shelf

section
variable {P : Program} {ops : Array Oper} {md : Region.Mode} {w : World}

def chain2B (md : Region.Mode) (ops : Array Oper) (n : Nat) : Bool :=
  (List.range ops.size).all fun t => decide (t ≤ n) || (List.range t).any fun j => decide (n ≤ j) && Region.waitsFor md ops t j

def headB (md : Region.Mode) (ops : Array Oper) (n : Nat) (listed : Array Bool) : Bool :=
  (listed.size == ops.size) && ((List.range ops.size).all fun j => !listed.getD j false || ((ops[j]?).map (fun oj => oj.after.all fun e => !Region.binds md e || listed.getD e.on false)).getD true)
    && ((List.range ops.size).all fun t => decide (t < n) || !listed.getD t true)

theorem headB_inv {n : Nat} {listed : Array Bool} (h : headB md ops n listed = true) : HeadInv md ops n listed := by
  simp only [headB, Bool.and_eq_true, beq_iff_eq, List.all_eq_true, List.mem_range] at h
  obtain ⟨⟨h1, h2⟩, h3⟩ := h
  refine ⟨h1, fun j oj hj hl e he hb => ?_, fun t ht ht' => ?_⟩
  · have := h2 j (Array.getElem?_eq_some_iff.1 hj).1
    rw [hl, hj] at this
    simp only [Bool.not_true, Bool.false_or, Option.map_some, Option.getD_some] at this
    have h4 := Array.all_eq_true_iff_forall_mem.1 this e he
    rw [hb] at h4
    simpa using h4
  · have := h3 t ht'
    simp only [Bool.or_eq_true, decide_eq_true_eq, Bool.not_eq_true'] at this
    exact this.resolve_left (by omega)

def Waits (md : Region.Mode) (ops : Array Oper) (n : Nat) : Prop := ∀ (listed : Array Bool) (i : Nat), HeadInv md ops n listed → i < n → listed.getD i true = false → ∀ t, n ≤ t → t ∉ Region.ready md ops listed

theorem waits_of {n : Nat} (hs : Region.sinkB md ops n = true) (hc : chain2B md ops n = true) (hn : n < ops.size) : Waits md ops n := by
  intro listed i inv hi hun t ht hr
  obtain ⟨_, ot, hot, hall⟩ := mem_ready.1 hr
  have htlt : t < ops.size := (Array.getElem?_eq_some_iff.1 hot).1
  rcases Nat.lt_or_ge n t with hlt | hge
  · have h1 := List.all_eq_true.1 hc t (List.mem_range.2 htlt)
    simp only [Bool.or_eq_true, decide_eq_true_eq] at h1
    rcases h1 with h1 | h1
    · omega
    · obtain ⟨j, hj, hj2⟩ := List.any_eq_true.1 h1
      simp only [Bool.and_eq_true, decide_eq_true_eq] at hj2
      have hjt := List.mem_range.1 hj
      obtain ⟨o', ho', e, he, hb, hon⟩ := Region.waitsFor_spec hj2.2
      have : o' = ot := Option.some.inj (ho'.symm.trans hot)
      subst this
      have h2 := hall e he hb
      rw [hon, getD_both (inv.tail j hj2.1 (by omega))] at h2
      cases h2
  · have e : t = n := by omega
    subst e
    -- follow the waits up from i
    have key : ∀ d i, t - i ≤ d → i < t → listed.getD i true = false → False := by
      intro d
      induction d with
      | zero => intro i h1 h2 _; omega
      | succ d ih =>
        intro i h1 h2 hu
        obtain ⟨j, hj, hj2⟩ := List.any_eq_true.1 (List.all_eq_true.1 hs i (List.mem_range.2 h2))
        simp only [Bool.and_eq_true, decide_eq_true_eq] at hj2
        have hjle := List.mem_range.1 hj
        obtain ⟨oj, hoj, e, he, hb, hon⟩ := Region.waitsFor_spec hj2.2
        by_cases hjt : j = t
        · subst hjt
          have : oj = ot := Option.some.inj (hoj.symm.trans hot)
          subst this
          have h3 := hall e he hb
          rw [hon, getD_both hu] at h3
          cases h3
        · cases hl : listed.getD j false with
          | true =>
            have h3 := inv.closed j oj hoj hl e he hb
            rw [hon, getD_both hu] at h3
            cases h3
          | false => exact ih j (by omega) (by omega) (getD_in (by rw [inv.size]; omega) hl)
    exact key _ i (Nat.le_refl _) hi hun

theorem first2 {n i : Nat} {oi : Oper} {v : Value} {L : Array Bool → Act → Prop} (hi : ops[i]? = some oi) (hsel : ∀ (j : Nat) (o : Oper) cs b, ops[j]? = some o → o.op ≠ .select cs b)
    (TW : Waits md ops n) (hin : i < n) (hdone : ∀ listed a, L listed a → ∀ j ∈ Region.ready md ops listed, n ≤ j) :
    ∀ (f : Nat) (listed : Array Bool) (a : Act), HeadInv md ops n listed →
      (∀ j oj, ops[j]? = some oj → j ≠ i → listed.getD j true = false → (∀ e ∈ oj.after, Region.binds md e = true → e.on ≠ i) → oi.apart ops oj = true) →
      i ∈ Region.ready md ops listed → YieldsAt P ops w oi v a →
      wpAnyL P md ops w n L f (listed.setIfInBounds i true) (a.put oi.dst v) → wpAnyL P md ops w n L (f + 1) listed a := by
  intro f
  induction f with
  | zero =>
    intro listed a inv _ hr hy H
    refine ⟨List.ne_nil_of_mem hr, fun j hj => ?_⟩
    have hjn : j < n := Nat.lt_of_not_le fun h => TW listed i inv hin (mem_ready.1 hr).1 j h hj
    by_cases hji : j = i
    · subst hji; exact ⟨hjn, hy.stOp hi H⟩
    · exact absurd (hdone _ _ H j (ready_mono hj hji)) (by omega)
  | succ f ih =>
    intro listed a inv hfree hr hy H
    refine ⟨List.ne_nil_of_mem hr, fun j hj => ?_⟩
    have hun := (mem_ready.1 hr).1
    have hjn : j < n := Nat.lt_of_not_le fun h => TW listed i inv hin hun j h hj
    refine ⟨hjn, ?_⟩
    by_cases hji : j = i
    · subst hji; exact hy.stOp hi H
    · obtain ⟨hjun, oj, hoj, hall⟩ := mem_ready.1 hj
      have hno : ∀ e ∈ oj.after, Region.binds md e = true → e.on ≠ i := by
        intro e he hb heq
        have h1 := hall e he hb
        rw [heq, getD_both hun] at h1
        cases h1
      refine stOp_mono (fun a' h3 => ih _ a' (inv.set hj hjn) (fun k ok hk hki hu hno' => hfree k ok hk hki ?_ hno') (ready_mono hr (Ne.symm hji)) h3.1 ?_)
        (stOp_put hoj (hfree j oj hoj hji hjun hno) (fun cs b => hsel i oi cs b hi) (fun cs b => hsel j oj cs b hoj) hy (H.2 j (ready_mono hj hji)).2)
      · by_cases hjk : j = k
        · subst hjk; exact hjun
        · rwa [getD_set_ne true hjk] at hu
      · rw [Array.setIfInBounds_comm _ _ hji]; exact h3.2

def setUp : Nat → Nat → Array Bool → Array Bool
  | 0, _, listed => listed
  | f + 1, k, listed => setUp f (k + 1) (listed.setIfInBounds k true)
def lexUp (md : Region.Mode) (ops : Array Oper) : Nat → Nat → Array Bool → Bool
  | 0, _, _ => true
  | f + 1, k, listed => (Region.ready md ops listed).contains k && Region.free md ops listed k && lexUp md ops f (k + 1) (listed.setIfInBounds k true)

theorem seg_lex {n : Nat} {Lq : Act → Prop} (hsel : Region.noSelect ops = true) (TW : Waits md ops n) :
    ∀ (l : List Oper) (k : Nat) (listed : Array Bool) (a : Act), (∀ j, j < l.length → l[j]? = ops[k + j]?) → k + l.length = n → HeadInv md ops n listed →
    Region.ready md ops (setUp l.length k listed) = [n] → lexUp md ops l.length k listed = true → wpStill P ops w Lq l a →
    wpAnyL P md ops w n (fun listed' a' => listed' = setUp l.length k listed ∧ Lq a') l.length listed a
  | [], k, listed, a, _, hk, _, _, _, h => ⟨rfl, h⟩
  | o :: l, k, listed, a, hl, hk, inv, hE, hB, h => by
    have h0 : ops[k]? = some o := by simpa using (hl 0 (by simp)).symm
    simp only [List.length_cons, lexUp, Bool.and_eq_true] at hB
    obtain ⟨⟨hr, hf⟩, hB'⟩ := hB
    have hkn : k < n := by simp only [List.length_cons] at hk; omega
    have hr' : k ∈ Region.ready md ops listed := by simpa using hr
    have hst : stOp P ops w k (wpStill P ops w Lq l) a := by unfold stOp; simp only [h0]; exact h
    obtain ⟨v, hy, hK⟩ := yieldsAt_of_stOp h0 hst
    exact first2 h0 (Region.noSelect_spec hsel) TW hkn (fun listed' a' hL j hj => by rw [hL.1, hE] at hj; simp at hj; omega) l.length listed a inv (Region.free_spec h0 hf) hr' hy
      (seg_lex hsel TW l (k + 1) _ _ (fun j hj => by have := hl (j + 1) (by simp; omega); simpa [Nat.add_assoc, Nat.add_comm 1 j] using this) (by simp only [List.length_cons] at hk; omega) (inv.set hr' hkn) hE hB' hK)

def segsB (md : Region.Mode) (ops : Array Oper) : List Nat → Nat → Array Bool → Bool
  | [], m, listed => Region.lexFrom md ops (ops.size - m) m listed
  | n :: ns, m, listed => decide (m ≤ n) && decide (n < ops.size) && Region.sinkB md ops n && chain2B md ops n && headB md ops n listed && lexUp md ops (n - m) m listed
      && decide (Region.ready md ops (setUp (n - m) m listed) = [n]) && segsB md ops ns (n + 1) ((setUp (n - m) m listed).setIfInBounds n true)

def wpSegs (P : Program) (l : List Oper) (Q : Exit → Act → World → Prop) : List Nat → Nat → Act → World → Prop
  | [], m, a, w => wpStill P l.toArray w (fun a' => Q .normal a' w) (l.drop m) a
  | n :: ns, m, a, w => wpStill P l.toArray w (fun a' => wpOp P l.toArray Q n (fun a'' w'' => wpSegs P l Q ns (n + 1) a'' w'') a' w) ((l.drop m).take (n - m)) a

theorem segs_any {Q : Exit → Act → World → Prop} {l : List Oper} (hsel : Region.noSelect l.toArray = true) : ∀ (ns : List Nat) (m : Nat) (listed : Array Bool) (a : Act) (w : World),
    m ≤ l.length → segsB md l.toArray ns m listed = true → wpSegs P l Q ns m a w → wpAny P md l.toArray Q (l.length - m) listed a w
  | [], m, listed, a, w, hm, hB, h => by
    have hl : (l.drop m).length = l.length - m := by simp
    refine wpAny_of_still (Q := fun a' => Q .normal a' w) (fun _ h => h) _ _ _ ?_
    have := wpAnyS_lex (P := P) (md := md) (ops := l.toArray) (w := w) hsel (l.drop m) m listed a (fun j => by simp [List.getElem?_drop]) (by rw [hl]; simpa [segsB] using hB) h
    rwa [hl] at this
  | n :: ns, m, listed, a, w, hm, hB, h => by
    simp only [segsB, Bool.and_eq_true, decide_eq_true_eq] at hB
    obtain ⟨⟨⟨⟨⟨⟨⟨hmn, hn⟩, hs⟩, hc⟩, hh⟩, hlex⟩, hE⟩, hB'⟩ := hB
    have hn' : n < l.length := by simpa using hn
    have htl : ((l.drop m).take (n - m)).length = n - m := by simp; omega
    have H := seg_lex (P := P) (w := w) (md := md) hsel (waits_of hs hc hn) ((l.drop m).take (n - m)) m listed a (fun j hj => by
      have hj' : j < n - m := by rw [htl] at hj; exact hj
      simp [List.getElem?_take, hj', List.getElem?_drop]) (by rw [htl]; omega) (headB_inv hh) (by rw [htl]; exact hE) (by rw [htl]; exact hlex) h
    rw [htl] at H
    have := wpAny_of_head (Q' := Q) (g := l.length - n) (fun listed' a' hL => by
      obtain ⟨rfl, hL⟩ := hL
      rw [show l.length - n = (l.length - (n + 1)) + 1 by omega]
      refine ⟨fun h0 => (by rw [hE] at h0; cases h0), fun i hi => ?_⟩
      rw [hE] at hi
      have : i = n := by simpa using hi
      subst this
      exact wpOp_mono (fun a' w' h' => segs_any hsel ns (i + 1) _ a' w' (by omega) hB' h') hL) _ _ _ H
    rwa [show n - m + (l.length - n) = l.length - m by omega] at this

/-- The region, segment by segment: ns are the operations that change the world. -/
theorem wp_region_segs {id : Nat} {Q : Exit → Act → World → Prop} {a : Act} {l : List Oper} (ns : List Nat) (hm : P.follows .mixedOrders = true) (hsel : Region.noSelect l.toArray = true)
    (hB : segsB .any l.toArray ns 0 (Array.replicate l.toArray.size false) = true) (h : wpSegs P l Q ns 0 a w.drew) : (Code.region id l.toArray true).wp P Q a w := by
  refine wp_region_any hm ?_
  have := segs_any hsel ns 0 _ a _ (Nat.zero_le _) hB h
  rw [Nat.sub_zero] at this
  rw [List.size_toArray]
  rw [List.size_toArray] at this
  exact this
/-- At the operation that ends a segment. -/
theorem wpSeg_at {Q : Exit → Act → World → Prop} {a : Act} {n : Nat} {o : Oper} {K : Act → World → Prop} (ho : ops[n]? = some o)
    (h : ∀ K' : Act → World → Prop, (∀ a w, K a w → K' a w) → if Region.wanted o (yielded ops a.tmps) then o.wp P a w K' Q else K' (a.put o.dst undef) w) : wpOp P ops Q n K a w := by
  unfold wpOp
  simp only [ho]
  have := h K (fun _ _ h => h)
  split
  · rename_i hw; rw [if_pos hw] at this; exact .inl this
  · rename_i hw; rw [if_neg hw] at this; exact this
theorem seg_cons {Q : Exit → Act → World → Prop} {a : Act} {l : List Oper} {n m : Nat} {ns : List Nat}
    (h : ∀ (K : Act → World → Prop) (K0 : Act → Prop), (∀ a w, wpSegs P l Q ns (n + 1) a w → K a w) → (∀ a', wpOp P l.toArray Q n K a' w → K0 a') → wpStill P l.toArray w K0 ((l.drop m).take (n - m)) a) :
    wpSegs P l Q (n :: ns) m a w := h _ _ (fun _ _ h => h) (fun _ h => h)
theorem seg_nil {Q : Exit → Act → World → Prop} {a : Act} {l : List Oper} {m : Nat}
    (h : ∀ K0 : Act → Prop, (∀ a', Q .normal a' w → K0 a') → wpStill P l.toArray w K0 (l.drop m) a) : wpSegs P l Q [] m a w := h _ (fun _ h => h)
end
end Go.Proofs.YtfeofhinpgodoaaGreatDoor

