/- Sorted on both sides, and the small helpers of the laws. -/
import Derived.Test.YtamekpldmplenaaDoorRefE
import Derived.Test.YtamekpldmplenaaDoorEq
namespace Go.Proofs.YtamekpldmplenaaDoor
open Go.RowKit Go.Shelf

/-- Whether a text is in canonical order. -/
def srtd (f : Int → Int) (text ys : List Int) : Prop := F0 f text ys ∧ Ord f ys
theorem srtd_eq {f : Int → Int} {text a b : List Int} (ha : F0 f text a ∧ Ord f a) (hb : F0 f text b ∧ Ord f b) : a = b := ord_uniq a b ha.2 hb.2 (ha.1.symm.trans hb.1)
theorem srtd_iff {f : Int → Int} {text a : List Int} (ha : F0 f text a ∧ Ord f a) : a = text ↔ Ord f text :=
  ⟨fun e => e ▸ ha.2, fun h => srtd_eq ha ⟨F0.refl _, h⟩⟩

set_option maxHeartbeats 400000 in
theorem refSorted_any (A : Option Addr) (n c : Nat) (l : List Sp) (A' : Option Addr) (len cap : Nat) (text : List Int) (w : World) (hR : RdSp w A n l) (hT : RdI w A' len text) (hbig : len ≤ 1000000000) :
    Calls Tryd.prog 30 #[.slice A n c, .slice A' len cap] w fun e w' => ∃ r, (r = true ↔ Ord (cls l) text) ∧ e = .returned (.bool r) ∧ Below w.heap.size w w' := by
  have HR := Lib.hid hR; have HT := Lib.hid hT
  clear hR hT
  go_enter Tryd.func30, Tryd.ntmps30
  go_wp2_with (go_at_call 28; refine (refSort_any _ _ _ l _ _ _ text _ HR.out HT.out hbig).mono ?_; rintro e w1 ⟨A1, n1, c1, ys, h1, h2, rfl, hb⟩; have H1 := Lib.hid h1; have H2 := Lib.hid h2; have HB := Lib.hid hb; clear h1 h2 hb)
  refine (refEqual_any _ _ _ ys _ _ _ text _ H1.out (HT.out.below HB.out)).mono ?_
  rintro e w2 ⟨rfl, hb⟩
  go_wp2_with fail
  go_ret
  exact ⟨_, by rw [decide_eq_true_iff]; exact srtd_iff H2.out, rfl, bthen HB.out hb⟩

set_option maxHeartbeats 400000 in
theorem sorted_any (A : Option Addr) (n c : Nat) (l : List Sp) (A' : Option Addr) (len cap : Nat) (text : List Int) (w : World) (hR : RdSp w A n l) (hT : RdI w A' len text) (hG : Glob w) :
    Calls Tryd.prog 29 #[.slice A n c, .slice A' len cap] w fun e w' => ∃ r, (r = true ↔ Ord (cls l) text) ∧ e = .returned (.bool r) ∧ Below w.heap.size w w' := by
  have HR := Lib.hid hR; have HT := Lib.hid hT; have HG := Lib.hid hG
  clear hR hT hG
  go_enter Tryd.func29, Tryd.ntmps29
  go_wp2_with (go_at_call 22; refine (sort_any _ _ _ l _ _ _ text _ HR.out HT.out HG.out).mono ?_; rintro e w1 ⟨A1, n1, c1, ys, h1, h2, rfl, hb⟩; have H1 := Lib.hid h1; have H2 := Lib.hid h2; have HB := Lib.hid hb; clear h1 h2 hb)
  refine (sliceEq_any _ _ _ ys _ _ _ text _ H1.out (HT.out.below HB.out)).mono ?_
  rintro e w2 ⟨rfl, hb⟩
  go_wp2_with fail
  go_ret
  exact ⟨_, by rw [decide_eq_true_iff]; exact srtd_iff H2.out, rfl, bthen HB.out hb⟩

set_option maxHeartbeats 400000 in
theorem small_any (A : Option Addr) (n c : Nat) (w : World) :
    Calls Tryd.prog 12 #[.slice A n c] w fun e w' => e = .returned (.bool (decide (n ≤ 16))) ∧ w' = w := by
  go_enter Tryd.func12, Tryd.ntmps12
  go_wp2_with fail
  go_ret
  exact ⟨ret_bool (decide_eq_decide.2 (by omega)), rfl⟩

set_option maxHeartbeats 400000 in
theorem few_any (A : Option Addr) (n c : Nat) (A' : Option Addr) (len cap : Nat) (w : World) :
    Calls Tryd.prog 16 #[.slice A n c, .slice A' len cap] w fun e w' => e = .returned (.bool (decide (n ≤ 16 ∧ len ≤ 40))) ∧ w' = w := by
  by_cases h : n ≤ 16
  · have hd := decide_eq_true h
    go_enter Tryd.func16, Tryd.ntmps16
    go_wp2_with (go_at_call 12; refine (small_any _ _ _ _).mono ?_; rintro e w1 ⟨rfl, rfl⟩; rw [hd])
    go_ret
    exact ⟨ret_bool (decide_eq_decide.2 (by omega)), rfl⟩
  · have hd := decide_eq_false h
    go_enter Tryd.func16, Tryd.ntmps16
    go_wp2_with (go_at_call 12; refine (small_any _ _ _ _).mono ?_; rintro e w1 ⟨rfl, rfl⟩; rw [hd])
    go_ret
    exact ⟨ret_bool (decide_eq_false (by omega)).symm, rfl⟩

theorem count_step (xs : List Int) (c : Int) (k : Nat) (x : Int) (h : xs[k]? = some x) : (xs.take (k + 1)).count c = (xs.take k).count c + if x = c then 1 else 0 := by
  rw [List.take_add_one, h, List.count_append]
  by_cases e : x = c
  · subst e; simp
  · simp [e]

set_option maxHeartbeats 1000000 in
theorem count_any (A : Option Addr) (n cp : Nat) (c : Int) (xs : List Int) (w : World) (hR : RdI w A n xs) :
    Calls Tryd.prog 23 #[.slice A n cp, .int .i64 c] w fun e w' => e = .returned (.int .i64 (xs.count c : Nat)) ∧ w' = w := by
  have hn := hR.bd
  have HR := Lib.hid hR
  have hlen := Lib.hid hR.len
  clear hR
  go_enter Tryd.func23, Tryd.ntmps23
  go_wp2_with fail
  go_loopw [5, 6] (fun r i wr => ∃ k m : Nat, k ≤ n ∧ m ≤ k ∧ i = .int .i64 (k : Int) ∧ r = .int .i64 (m : Int) ∧ Hid (m = (xs.take k).count c) ∧ wr = w)
    (fun _ i _ => n - (intOf i).toNat)
  case atStart => exact ⟨0, 0, by omega, by omega, by go_num, by go_num, by show 0 = _; simp, rfl⟩
  case round =>
    obtain ⟨k, m, hk, hm, rfl, rfl, HM, rfl⟩ := hrel
    by_cases hlt : k < n
    · obtain ⟨b, o, rfl⟩ := HR.out.addr (by omega)
      obtain ⟨x, hx, cx⟩ := RdI.elt HR.out hlt
      have hlt' : (k : Int) < (n : Int) := by omega
      by_cases e : x = c
      · have E := Lib.hid e
        have ed := beq_iff_eq.2 e
        clear e
        go_wp2_with fail
        go_roundw
        case rel => exact ⟨k + 1, m + 1, by omega, by omega, by go_num, by go_num, by show m + 1 = _; rw [count_step xs c k x hx.out, if_pos E.out, HM.out], trivial⟩
        case measure => simp [intOf]; omega
      · have E := Lib.hid e
        have ed := beq_eq_false_iff_ne.2 e
        clear e
        go_wp2_with fail
        go_roundw
        case rel => exact ⟨k + 1, m, by omega, by omega, by go_num, by go_num, by show m = _; rw [count_step xs c k x hx.out, if_neg E.out, HM.out]; rfl, trivial⟩
        case measure => simp [intOf]; omega
    · have e : k = n := by omega
      subst e
      have hlt' : ¬ (k : Int) < (k : Int) := by omega
      have hf := HM.out
      rw [List.take_of_length_le (by rw [hlen.out]; exact Nat.le_refl _)] at hf
      have HF := Lib.hid hf
      clear hf
      go_wp2_with fail
      go_ret
      exact ⟨by rw [HF.out]; rfl, rfl⟩
end Go.Proofs.YtamekpldmplenaaDoor
