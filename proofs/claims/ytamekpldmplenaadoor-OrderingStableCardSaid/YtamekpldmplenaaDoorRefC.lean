/- The reference's class of a code point and its starter test. -/
import Derived.Test.YtamekpldmplenaaDoorRefB
import Derived.Test.YtamekpldmplenaaDoorClass
namespace Go.Proofs.YtamekpldmplenaaDoor
open Go.RowKit Go.Shelf

theorem cls_first (l : List Sp) (h : chk l = 0) (c : Int) (r : Nat) (s : Sp) (hs : l[r]? = some s) (hp : ¬ (c < s.lo ∨ s.hi < c)) : cls l c = s.val :=
  cls_found l h c r s hs (by omega) (by omega)

set_option maxHeartbeats 1000000 in
theorem refClass_any (A : Option Addr) (n cp : Nat) (x : Int) (l : List Sp) (w : World) (hR : RdSp w A n l) :
    Calls Tryd.prog 25 #[.slice A n cp, .int .i64 x] w fun e w' => e = .returned (.int .i64 (cls l x)) ∧ Below w.heap.size w w' := by
  have hn := hR.bd
  have HR := Lib.hid hR
  have hlen := Lib.hid hR.len
  clear hR
  by_cases hk : chk l = 0
  · have HK := Lib.hid hk
    clear hk
    go_enter Tryd.func25, Tryd.ntmps25
    go_wp2_with (go_at_call 14; refine (refCheck_any _ _ _ l _ HR.out).mono ?_; rintro e w1 ⟨rfl, hb⟩; rw [HK.out]; have HB := Lib.hid hb; clear hb)
    go_loopw [5] (fun i wr => ∃ k : Nat, k ≤ n ∧ i = .int .i64 (k : Int) ∧ Hid (∀ (i : Nat) (s : Sp), i < k → l[i]? = some s → ¬ (s.lo ≤ x ∧ x ≤ s.hi)) ∧ Below w.heap.size w wr)
      (fun i _ => n - (intOf i).toNat)
    case atStart => exact ⟨0, by omega, by go_num, fun i s h => absurd h (by omega), HB.out⟩
    case round =>
      obtain ⟨k, hkn, rfl, HJ, hB⟩ := hrel
      clear HB
      have HB := Lib.hid hB
      by_cases hlt : k < n
      · obtain ⟨b, o, rfl⟩ := HR.out.addr (by omega)
        obtain ⟨lo, hi, val, hs, c0, c1, c2⟩ := RdSp.elt (HR.out.below hB) hlt
        clear hB
        have hlt' : (k : Int) < (n : Int) := by omega
        by_cases h1 : lo ≤ x
        · have e1 := decide_eq_true h1
          by_cases h2 : x ≤ hi
          · have e2 := decide_eq_true h2
            have hf := Lib.hid (cls_found l HK.out x k _ hs.out h1 h2)
            go_wp2_with fail
            go_ret
            exact ⟨ret_int hf.out.symm, HB.out⟩
          · have e2 := decide_eq_false h2
            have hf := Lib.hid (upto_step (P := fun s => ¬ (s.lo ≤ x ∧ x ≤ s.hi)) HJ hs (by dsimp only; omega))
            go_wp2_with fail
            go_roundw
            case rel => exact ⟨k + 1, by omega, by go_num, hf.out, HB.out⟩
            case measure => simp [intOf] <;> omega
        · have e1 := decide_eq_false h1
          have hf := Lib.hid (upto_step (P := fun s => ¬ (s.lo ≤ x ∧ x ≤ s.hi)) HJ hs (by dsimp only; omega))
          go_wp2_with fail
          go_roundw
          case rel => exact ⟨k + 1, by omega, by go_num, hf.out, HB.out⟩
          case measure => simp [intOf] <;> omega
      · have hlt' : ¬ (k : Int) < (n : Int) := by omega
        have hf := Lib.hid (cls_none l x (fun i s h => HJ.out i s (by have := (List.getElem?_eq_some_iff.1 h).1; rw [hlen.out] at this; omega) h))
        go_wp2_with fail
        go_ret
        exact ⟨ret_int hf.out.symm, hB⟩
  · have hk' := bne_iff_ne.2 hk
    have hf := Lib.hid (cls_bad l hk x)
    clear hk
    go_enter Tryd.func25, Tryd.ntmps25
    go_wp2_with (go_at_call 14; refine (refCheck_any _ _ _ l _ HR.out).mono ?_; rintro e w1 ⟨rfl, hb⟩; have HB := Lib.hid hb; clear hb)
    go_ret
    exact ⟨ret_int hf.out.symm, HB.out⟩

set_option maxHeartbeats 400000 in
theorem refStarter_any (A : Option Addr) (n cp : Nat) (x : Int) (l : List Sp) (w : World) (hR : RdSp w A n l) :
    Calls Tryd.prog 27 #[.slice A n cp, .int .i64 x] w fun e w' => e = .returned (.bool (cls l x == 0)) ∧ Below w.heap.size w w' := by
  have HR := Lib.hid hR
  clear hR
  go_enter Tryd.func27, Tryd.ntmps27
  go_wp2_with (go_at_call 25; refine (refClass_any _ _ _ x l _ HR.out).mono ?_; rintro e w1 ⟨rfl, hb⟩)
  go_ret
  exact ⟨rfl, hb⟩
end Go.Proofs.YtamekpldmplenaaDoor
