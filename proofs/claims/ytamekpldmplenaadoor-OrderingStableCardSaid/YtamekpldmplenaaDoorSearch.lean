import Derived.Test.YtamekpldmplenaaDoorCheckB
namespace Go.Proofs.YtamekpldmplenaaDoor
open Go.RowKit

set_option maxHeartbeats 400000 in
theorem hi_any (b o n c B1 B2 : Nat) (k : Nat) (x hi : Int) (w : World) (h1 : k < n)
   (hc : w.cell? ⟨B1, 0, none⟩ = some (.slice (some ⟨b, o, none⟩) n c)) (hx : w.cell? ⟨B2, 0, none⟩ = some (.int .i64 x))
   (hcell : w.cell? ⟨b, o + k * 3 + 1, none⟩ = some (.int .i64 hi)) :
    Calls Tryd.prog 51 #[.int .i64 k, .pointer (some ⟨B1, 0, none⟩), .pointer (some ⟨B2, 0, none⟩)] w fun e w' => e = .returned (.bool (decide (x ≤ hi))) ∧ Below w.heap.size w w' := by
  have h1' : (k : Int) < (n : Int) := by omega
  go_enter Tryd.func51, Tryd.ntmps51
  go_wp2
  go_quiet (fail)
  go_wp2
  go_ret
  exact ⟨rfl, bdrewN (Below.refl _ _) _⟩

theorem low_step {l : List Sp} {m : Nat} {lo hi val x : Int} (hs : Hid (l[m]? = some ⟨lo, hi, val⟩)) (hx : hi < x) : Hid (∀ (q : Nat) (s : Sp), q + 1 = m + 1 → l[q]? = some s → s.hi < x) := by
  intro q s h k
  obtain rfl : q = m := by omega
  rw [hs.out] at k; cases k; show hi < x; omega
set_option maxHeartbeats 1000000 in
theorem search_any (A : Option Addr) (n cp B1 B2 : Nat) (x : Int) (l : List Sp) (w : World) (hR : RdSp w A n l)
   (hc : w.cell? ⟨B1, 0, none⟩ = some (.slice A n cp)) (hx : w.cell? ⟨B2, 0, none⟩ = some (.int .i64 x)) :
    Calls Tryd.prog 50 #[.int .i64 n, .func (.func 51) #[] #[.pointer (some ⟨B1, 0, none⟩), .pointer (some ⟨B2, 0, none⟩)]] w fun e w' =>
      ∃ r : Nat, (r ≤ n ∧ (∀ (i : Nat) (s : Sp), i + 1 = r → l[i]? = some s → s.hi < x) ∧ (∀ s, l[r]? = some s → x ≤ s.hi)) ∧ e = .returned (.int .i64 r) ∧ Below w.heap.size w w' := by
  have hn := hR.bd
  have HR := Lib.hid hR
  have HC := Lib.hid hc; have HX := Lib.hid hx
  have hlen := Lib.hid hR.len
  clear hR hc hx
  go_enter Tryd.func50, Tryd.ntmps50
  go_wp2_with fail
  go_loopw [5, 6] (fun u v wr => ∃ i j : Nat, i ≤ j ∧ j ≤ n ∧ u = .int .i64 i ∧ v = .int .i64 j ∧ Hid (∀ (q : Nat) (s : Sp), q + 1 = i → l[q]? = some s → s.hi < x) ∧ Hid (∀ s, l[j]? = some s → x ≤ s.hi) ∧ Below w.heap.size w wr)
    (fun u v _ => (intOf v - intOf u).toNat)
  case atStart => exact ⟨0, n, by omega, by omega, rfl, rfl, fun q s h => absurd h (by omega), fun s h => by have := (List.getElem?_eq_some_iff.1 h).1; rw [hlen.out] at this; omega, Below.refl _ _⟩
  case round =>
    obtain ⟨i, j, hij, hjn, rfl, rfl, HL, HU, hB⟩ := hrel
    by_cases hlt : i < j
    · obtain ⟨m, hm⟩ : ∃ m : Nat, m = (i + j) / 2 := ⟨_, rfl⟩
      have Hm := Lib.hid (show ((i : Int) + (j : Int)) / 2 = (m : Int) by omega)
      have him : i ≤ m := by omega
      have hmj : m < j := by omega
      clear hm
      have hmn : m < n := by omega
      obtain ⟨b, o, rfl⟩ := HR.out.addr (by omega)
      obtain ⟨lo, hi, val, hs, c0, c1, c2⟩ := RdSp.elt (HR.out.below hB) hmn
      have HC1 := Lib.hid c1
      have HB := Lib.hid hB
      clear c0 c1 c2 hB
      by_cases hx : x ≤ hi
      · have hd := decide_eq_true hx
        go_wp2_with (go_at_call 51; rw [Hm.out]; refine (hi_any b o n cp B1 B2 m x hi _ hmn (bcel HB.out HC.out) (bcel HB.out HX.out) HC1.out).mono ?_; rintro e w1 ⟨rfl, hb⟩; rw [hd])
        go_roundw
        case rel => exact ⟨i, m, by omega, by omega, rfl, rfl, HL, (fun s h => by rw [hs.out] at h; cases h; exact hx), bthen HB.out hb⟩
        case measure => simp [intOf]; omega
      · have hd := decide_eq_false hx
        go_wp2_with (go_at_call 51; rw [Hm.out]; refine (hi_any b o n cp B1 B2 m x hi _ hmn (bcel HB.out HC.out) (bcel HB.out HX.out) HC1.out).mono ?_; rintro e w1 ⟨rfl, hb⟩; rw [hd])
        go_roundw
        case rel => exact ⟨m + 1, j, by omega, by omega, by go_num, rfl, low_step hs hx, HU, bthen HB.out hb⟩
        case measure => simp [intOf]; omega
    · have e : i = j := by omega
      subst e
      go_wp2_with fail
      go_ret
      exact ⟨i, ⟨by omega, HL.out, HU.out⟩, rfl, hB⟩

/-! The class of a number. -/
def cls (l : List Sp) (c : Int) : Int := if chk l = 0 then (match l.find? (fun s => decide (s.lo ≤ c ∧ c ≤ s.hi)) with | some s => s.val | none => 0) else 0
theorem chk_zero {l : List Sp} (h : chk l = 0) : l.any bad1 = false ∧ adj l = false ∧ l.any kor = false := by
  unfold chk at h
  by_cases h1 : l.any bad1 = true
  · rw [if_pos h1] at h; cases h
  · by_cases h2 : adj l = true
    · rw [if_neg h1, if_pos h2] at h; cases h
    · by_cases h3 : l.any kor = true
      · rw [if_neg h1, if_neg h2, if_pos h3] at h; cases h
      · exact ⟨by simpa using h1, by simpa using h2, by simpa using h3⟩
theorem adj_of_false : ∀ (l : List Sp) (i : Nat) (a b : Sp), adj l = false → l[i]? = some a → l[i + 1]? = some b → bad2 a b = false := by
  intro l i a b h ha hb
  cases hbb : bad2 a b with
  | false => rfl
  | true => rw [adj_true l i a b ha hb hbb] at h; cases h
theorem asc_of (l : List Sp) (h : chk l = 0) : ∀ (d i : Nat) (a b : Sp), l[i]? = some a → l[i + d + 1]? = some b → a.hi < b.lo := by
  obtain ⟨h1, h2, _⟩ := chk_zero h
  intro d
  induction d with
  | zero =>
    intro i a b ha hb
    have := adj_of_false l i a b h2 ha hb
    simp [bad2] at this
    omega
  | succ d ih =>
    intro i a b ha hb
    have hlt : i + d + 1 < l.length := by have := (List.getElem?_eq_some_iff.1 hb).1; omega
    obtain ⟨⟨lo, hi, val⟩, hm⟩ : ∃ m, l[i + d + 1]? = some m := ⟨_, List.getElem?_eq_getElem hlt⟩
    have e1 := ih i a _ ha hm
    have e2 := adj_of_false l (i + d + 1) _ b h2 hm (by rw [← hb]; congr 1)
    have e3 := good1 h1 hm
    simp [bad2] at e2
    simp at e1
    omega
theorem cls_found (l : List Sp) (h : chk l = 0) (c : Int) (r : Nat) (s : Sp) (hs : l[r]? = some s) (h1 : s.lo ≤ c) (h2 : c ≤ s.hi) : cls l c = s.val := by
  unfold cls
  rw [if_pos h]
  have : l.find? (fun s => decide (s.lo ≤ c ∧ c ≤ s.hi)) = some s := by
    rw [List.find?_eq_some_iff_getElem]
    obtain ⟨hl, he⟩ := List.getElem?_eq_some_iff.1 hs
    refine ⟨by simp [h1, h2], r, hl, he, fun j hj => ?_⟩
    have := asc_of l h (r - j - 1) j l[j] s (List.getElem?_eq_getElem (by omega)) (by rw [show j + (r - j - 1) + 1 = r by omega]; exact hs)
    simp
    omega
  rw [this]
theorem cls_none (l : List Sp) (c : Int) (h : ∀ (i : Nat) (s : Sp), l[i]? = some s → ¬ (s.lo ≤ c ∧ c ≤ s.hi)) : cls l c = 0 := by
  unfold cls
  split
  · have : l.find? (fun s => decide (s.lo ≤ c ∧ c ≤ s.hi)) = none := by
      rw [List.find?_eq_none]
      intro s hs
      obtain ⟨i, hi⟩ := List.mem_iff_getElem?.1 hs
      simpa using h i s hi
    rw [this]
  · rfl
theorem cls_bad (l : List Sp) (h : ¬ chk l = 0) (c : Int) : cls l c = 0 := by unfold cls; rw [if_neg h]
/-- What the search gives decides. -/
theorem cls_out (l : List Sp) (h : chk l = 0) (c : Int) (r : Nat) (hr : r ≤ l.length) (hL : ∀ (i : Nat) (s : Sp), i + 1 = r → l[i]? = some s → s.hi < c) (hno : ∀ s, l[r]? = some s → c < s.lo) : cls l c = 0 := by
  refine cls_none l c fun i s hs hx => ?_
  obtain ⟨h1, _, _⟩ := chk_zero h
  have hgood : ∀ (j : Nat) (t : Sp), l[j]? = some t → t.lo ≤ t.hi := fun j ⟨lo, hi, val⟩ ht => (good1 h1 ht).2.1
  by_cases e : i < r
  · by_cases e' : i + 1 = r
    · have := hL i s e' hs; omega
    · have hlt : r - 1 < l.length := by omega
      have e1 := hL (r - 1) l[r - 1] (by omega) (List.getElem?_eq_getElem hlt)
      have e2 := asc_of l h (r - 1 - i - 1) i s l[r - 1] hs (by rw [show i + (r - 1 - i - 1) + 1 = r - 1 by omega]; exact List.getElem?_eq_getElem hlt)
      have e3 := hgood (r - 1) l[r - 1] (List.getElem?_eq_getElem hlt)
      omega
  · by_cases e' : i = r
    · subst e'; have := hno s hs; omega
    · have hl := (List.getElem?_eq_some_iff.1 hs).1
      have hr : l[r]? = some l[r] := List.getElem?_eq_getElem (by omega)
      have e1 := hno _ hr
      have e2 := asc_of l h (i - r - 1) r l[r] s hr (by rw [show r + (i - r - 1) + 1 = i by omega]; exact hs)
      have e3 := hgood r _ hr
      omega
end Go.Proofs.YtamekpldmplenaaDoor
