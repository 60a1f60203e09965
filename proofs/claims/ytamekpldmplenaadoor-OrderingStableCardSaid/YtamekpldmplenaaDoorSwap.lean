import Derived.Test.YtamekpldmplenaaDoorMut
namespace Go.Proofs.YtamekpldmplenaaDoor
open Go.RowKit Go.Shelf

/-- i elements from a on and i from b on have been exchanged. -/
def Swp (xs ys : List Int) (a b i : Nat) : Prop := ys.length = xs.length ∧ ∀ j : Nat, ys[j]? = if a ≤ j ∧ j < a + i then xs[b + (j - a)]? else if b ≤ j ∧ j < b + i then xs[a + (j - b)]? else xs[j]?
theorem swp_zero (xs : List Int) (a b : Nat) : Swp xs xs a b 0 := ⟨rfl, fun j => by rw [if_neg (by omega), if_neg (by omega)]⟩
theorem swp_step {xs ys : List Int} {a b i n : Nat} {x y : Int} (h : Swp xs ys a b i) (hi : i < n) (h1 : a + n ≤ b) (h2 : b + n ≤ xs.length) (hx : ys[a + i]? = some x) (hy : ys[b + i]? = some y) :
    Swp xs ((ys.set (a + i) y).set (b + i) x) a b (i + 1) := by
  obtain ⟨hl, hj⟩ := h
  refine ⟨by simp [hl], fun j => ?_⟩
  have ex := hj (a + i)
  rw [if_neg (by omega), if_neg (by omega), hx] at ex
  have ey := hj (b + i)
  rw [if_neg (by omega), if_neg (by omega), hy] at ey
  by_cases e1 : j = b + i
  · subst e1
    rw [List.getElem?_set_self (by simp; omega), if_neg (by omega), if_pos (by omega), show a + (b + i - b) = a + i by omega, ← ex]
  · rw [List.getElem?_set_ne (by omega)]
    by_cases e2 : j = a + i
    · subst e2
      rw [List.getElem?_set_self (by omega), if_pos (by omega), show b + (a + i - a) = b + i by omega, ← ey]
    · rw [List.getElem?_set_ne (by omega), hj j]
      (repeat' split) <;> first | rfl | (exfalso; omega)

set_option maxHeartbeats 1000000 in
theorem swap_any (q off len cap a b n : Nat) (fv : Value) (xs : List Int) (w : World) (hH : Holds w q off xs) (hl : xs.length = len) (hbd : len < 17592186044417) (h1 : a + n ≤ b) (h2 : b + n ≤ len) :
    Calls Tryd.prog 58 #[.slice (some ⟨q, off, none⟩) len cap, .int .i64 a, .int .i64 b, .int .i64 n, fv] w fun e w' =>
      ∃ ys, Swp xs ys a b n ∧ e = .returned (.tuple #[]) ∧ Holds w' q off ys ∧ Mut q off (off + len) w w' := by
  have hL := Lib.hid hl
  have H0 := Lib.hid hH
  clear hl hH
  go_enter Tryd.func58, Tryd.ntmps58
  go_wp2_with fail
  go_loopw [10] (fun u wr => ∃ (i : Nat) (ys : List Int), i ≤ n ∧ u = .int .i64 i ∧ Hid (Swp xs ys a b i) ∧ Hid (Holds wr q off ys) ∧ Hid (Mut q off (off + len) w wr))
    (fun u _ => n - (intOf u).toNat)
  case atStart => exact ⟨0, xs, by omega, rfl, swp_zero xs a b, H0.out, Mut.refl _ _ _ _⟩
  case round =>
    obtain ⟨i, ys, hi, rfl, HS, HH, HM⟩ := hrel
    by_cases hlt : i < n
    · have hyl : ys.length = len := HS.out.1.trans hL.out
      have Hyl := Lib.hid hyl
      obtain ⟨x, hx, cx, fx⟩ := HH.out.elt (show a + i < ys.length by omega)
      obtain ⟨y, hy, cy, fy⟩ := HH.out.elt (show b + i < ys.length by omega)
      have hai : (a : Int) + (i : Int) < (len : Int) := by omega
      have hbi : (b : Int) + (i : Int) < (len : Int) := by omega
      have hab : ¬ a = b := by omega
      have hab' : ¬ b = a := by omega
      have hns : a + i ≠ b + i := by omega
      clear hyl
      go_wp2_with fail
      go_region
      all_goals go_wp2_with fail
      go_roundw
      case rel =>
        exact ⟨i + 1, (ys.set (a + i) y).set (b + i) x, by omega, by go_num, swp_step HS.out hlt h1 (by rw [hL.out]; exact h2) hx.out hy.out,
          ((HH.out.set (by rw [Hyl.out]; omega) y).set (by simp only [List.length_set]; rw [Hyl.out]; omega) x).drewN 1,
          ((HM.out.setCell (by omega) (by omega) _).setCell (by omega) (by omega) _).drewN 1⟩
      case measure => simp [intOf]; omega
    · have e : i = n := by omega
      subst e
      go_wp2_with fail
      go_end0
      exact ⟨ys, HS.out, rfl, HH.out, HM.out⟩

/-! In pieces. -/
theorem swp_pieces {P X M Y S ys : List Int} (hxy : X.length = Y.length) (h : Swp (P ++ X ++ M ++ Y ++ S) ys P.length (P.length + X.length + M.length) X.length) : ys = P ++ Y ++ M ++ X ++ S := by
  obtain ⟨hl, hj⟩ := h
  apply List.ext_getElem?
  intro j
  rw [hj j]
  simp only [List.append_assoc]
  by_cases c1 : j < P.length
  · rw [if_neg (by omega), if_neg (by omega), List.getElem?_append_left c1, List.getElem?_append_left c1]
  · rw [List.getElem?_append_right (l₁ := P) (l₂ := Y ++ (M ++ (X ++ S))) (by omega)]
    by_cases c2 : j < P.length + X.length
    · rw [if_pos (by omega), List.getElem?_append_right (by omega), List.getElem?_append_right (by omega), List.getElem?_append_right (by omega), List.getElem?_append_left (by omega), List.getElem?_append_left (by omega)]
      congr 1; omega
    · rw [if_neg (by omega), List.getElem?_append_right (l₁ := Y) (by omega)]
      by_cases c3 : j < P.length + X.length + M.length
      · rw [if_neg (by omega), List.getElem?_append_right (by omega), List.getElem?_append_right (by omega), List.getElem?_append_left (by omega), List.getElem?_append_left (by omega)]
        congr 1; omega
      · rw [List.getElem?_append_right (l₁ := M) (by omega)]
        by_cases c4 : j < P.length + X.length + M.length + X.length
        · rw [if_pos (by omega), List.getElem?_append_right (by omega), List.getElem?_append_left (by omega), List.getElem?_append_left (by omega)]
          congr 1; omega
        · rw [if_neg (by omega), List.getElem?_append_right (by omega), List.getElem?_append_right (by omega), List.getElem?_append_right (by omega), List.getElem?_append_right (by omega), List.getElem?_append_right (by omega)]
          congr 1; omega
end Go.Proofs.YtamekpldmplenaaDoor
