import Derived.Test.YtamekpldmplenaaDoorCheckA
namespace Go.Proofs.YtamekpldmplenaaDoor
open Go.RowKit

theorem bad1_true {lo hi val : Int} (h : lo < 0 ∨ hi < lo ∨ 1114111 < hi ∨ val < 1 ∨ 254 < val) : bad1 ⟨lo, hi, val⟩ = true := decide_eq_true h
theorem bad1_false {lo hi val : Int} (h : ¬ (lo < 0 ∨ hi < lo ∨ 1114111 < hi ∨ val < 1 ∨ 254 < val)) : bad1 ⟨lo, hi, val⟩ = false := decide_eq_false h
theorem chk_1 {l : List Sp} {i : Nat} {s : Sp} (hs : l[i]? = some s) (h : bad1 s = true) : chk l = 1 := by unfold chk; rw [if_pos (any_at hs h)]
theorem good1 {l : List Sp} (H : l.any bad1 = false) {i : Nat} {lo hi val : Int} (hs : l[i]? = some ⟨lo, hi, val⟩) : 0 ≤ lo ∧ lo ≤ hi ∧ hi ≤ 1114111 ∧ 1 ≤ val ∧ val ≤ 254 := by
  have := List.any_eq_false.1 H _ (List.mem_of_getElem? hs)
  simp [bad1] at this
  omega

theorem bad2_true {lo hi val lo' hi' val' : Int} (h : lo' ≤ hi ∨ (hi + 1 = lo' ∧ val = val')) : bad2 ⟨lo, hi, val⟩ ⟨lo', hi', val'⟩ = true := decide_eq_true h
theorem bad2_false {lo hi val lo' hi' val' : Int} (h : ¬ (lo' ≤ hi ∨ (hi + 1 = lo' ∧ val = val'))) : bad2 ⟨lo, hi, val⟩ ⟨lo', hi', val'⟩ = false := decide_eq_false h
theorem chk_4 {l : List Sp} (H : l.any bad1 = false) {i : Nat} {a b : Sp} (ha : l[i]? = some a) (hb : l[i + 1]? = some b) (h : bad2 a b = true) : chk l = 4 := by
  unfold chk; rw [if_neg (by rw [H]; decide), if_pos (adj_true l i a b ha hb h)]
theorem upto2_step {l : List Sp} {m : Nat} {x y : Sp} (H : Hid (∀ (i : Nat) (a b : Sp), i < m → l[i]? = some a → l[i + 1]? = some b → bad2 a b = false)) (hx : Hid (l[m]? = some x)) (hy : Hid (l[m + 1]? = some y)) (hp : bad2 x y = false) :
    Hid (∀ (i : Nat) (a b : Sp), i < m + 1 → l[i]? = some a → l[i + 1]? = some b → bad2 a b = false) := by
  intro i a b hi ha hb
  by_cases e : i = m
  · subst e; rw [hx.out] at ha; rw [hy.out] at hb; cases ha; cases hb; exact hp
  · exact H.out i a b (by omega) ha hb

set_option maxHeartbeats 2000000 in
theorem check_any (A : Option Addr) (n c : Nat) (l : List Sp) (w : World) (hR : RdSp w A n l) (hG : Glob w) :
    Calls Tryd.prog 13 #[.slice A n c] w fun e w' => e = .returned (.int .i64 (chk l)) ∧ Below w.heap.size w w' := by
  have hn := hR.bd
  have hlen := Lib.hid hR.len
  have HR := Lib.hid hR; have HG := Lib.hid hG
  clear hR hG
  go_enter Tryd.func13, Tryd.ntmps13
  go_wp2_with fail
  go_loopw [10] (fun i wr => ∃ k : Nat, k ≤ n ∧ i = .int .i64 k ∧ Hid (∀ (i : Nat) (s : Sp), i < k → l[i]? = some s → bad1 s = false) ∧ Below w.heap.size w wr)
    (fun i _ => n - (intOf i).toNat)
  case atStart => exact ⟨0, by omega, rfl, fun j h hk => absurd hk (by omega), Below.refl _ _⟩
  case round =>
    obtain ⟨k, hk, rfl, HJ, hB⟩ := hrel
    have HB := Lib.hid hB
    by_cases hlt : k < n
    · obtain ⟨b, o, rfl⟩ := HR.out.addr (by omega)
      obtain ⟨lo, hi, val, hs, c0, c1, c2⟩ := RdSp.elt (HR.out.below hB) hlt
      clear hB
      go_wp2_with fail
      all_goals first
        | (go_ret; exact ⟨ret_int (chk_1 hs.out (bad1_true (by omega))).symm, HB.out.alloc HB.out.size _⟩)
        | (go_roundw
           case rel => exact ⟨k + 1, by omega, by go_num, upto_step HJ hs (bad1_false (by omega)), HB.out.alloc HB.out.size _⟩
           case measure => simp [intOf]; omega)
    · have hg := Lib.hid (any_no (p := bad1) (l := l) fun i s h => HJ.out i s (by have := (List.getElem?_eq_some_iff.1 h).1; rw [hlen.out] at this; omega) h)
      clear hB
      go_wp2_with fail
      go_loopw [5] (fun i wr => ∃ m : Nat, m + 1 ≤ n + 1 ∧ i = .int .i64 ((m : Int) + 1) ∧ Hid (∀ (i : Nat) (a b : Sp), i < m → l[i]? = some a → l[i + 1]? = some b → bad2 a b = false) ∧ Below w.heap.size w wr)
        (fun i _ => n + 1 - (intOf i).toNat)
      case atStart => exact ⟨0, by omega, by go_num, fun j a b hk => absurd hk (by omega), HB.out⟩
      case round =>
        obtain ⟨m, hm, rfl, HP, hB⟩ := hrel
        clear HB
        have HB := Lib.hid hB
        by_cases hlt : m + 1 < n
        · obtain ⟨b, o, rfl⟩ := HR.out.addr (by omega)
          obtain ⟨lo, hi, val, hs, c0, c1, c2⟩ := RdSp.elt (HR.out.below hB) (show m < n by omega)
          obtain ⟨lo', hi', val', hs', c0', c1', c2'⟩ := RdSp.elt (HR.out.below hB) hlt
          have hgd := good1 hg.out hs.out
          have hgd' := good1 hg.out hs'.out
          obtain ⟨e1, e2, e3, e4, e5⟩ := hgd
          obtain ⟨e1', e2', e3', e4', e5'⟩ := hgd'
          clear hB
          have hbs : b < wr.heap.size := World.block_lt_of_cell? wr _ c0
          have hbs' : b < wr.heap.size + 1 := by omega
          have hlt' : (m : Int) + 1 < (n : Int) := by omega
          go_wp2_with fail
          go_region
          all_goals go_wp2_with fail
          all_goals first
            | (go_ret; exact ⟨ret_int (chk_4 hg.out hs.out hs'.out (bad2_true (by omega))).symm, ((HB.out.alloc HB.out.size _).alloc (by have := HB.out.size; simp; omega) _).drew⟩)
            | (have hx : lo' ≤ hi ∨ (val == val') = true := by assumption
               rw [beq_iff_eq] at hx
               go_ret; exact ⟨ret_int (chk_4 hg.out hs.out hs'.out (bad2_true (by omega))).symm, ((HB.out.alloc HB.out.size _).alloc (by have := HB.out.size; simp; omega) _).drew⟩)
            | (go_roundw
               case rel => exact ⟨m + 1, by omega, by go_num, upto2_step HP hs hs' (bad2_false (by omega)), ((HB.out.alloc HB.out.size _).alloc (by have := HB.out.size; simp; omega) _).drew⟩
               case measure => simp [intOf]; omega)
            | (have hx : hi < lo' ∧ (val == val') = false := by assumption
               rw [beq_eq_false_iff_ne] at hx
               go_roundw
               case rel => exact ⟨m + 1, by omega, by go_num, upto2_step HP hs hs' (bad2_false (by omega)), ((HB.out.alloc HB.out.size _).alloc (by have := HB.out.size; simp; omega) _).drew⟩
               case measure => simp [intOf]; omega)
        · have ha := Lib.hid (adj_false l fun i a b h k => HP.out i a b (by have := (List.getElem?_eq_some_iff.1 k).1; rw [hlen.out] at this; omega) h k)
          have hok := Lib.hid (show ∀ (i : Nat) (s : Sp), l[i]? = some s → s.lo ≤ s.hi from fun i ⟨lo, hi, val⟩ h => (good1 hg.out h).2.1)
          have hlt' : ¬ (m : Int) + 1 < (n : Int) := by omega
          clear hB
          cases hk : l.any kor with
          | true =>
            have hf := Lib.hid (show chk l = 11 by unfold chk; rw [if_neg (by rw [hg.out]; decide), if_neg (by rw [ha.out]; decide), if_pos hk])
            go_wp2_with (go_at_call 31; refine (has_kor _ _ _ _ _ (HR.out.below HB.out) (HG.out.below HB.out) hok.out).mono ?_; rintro e w1 ⟨rfl, hb⟩; rw [hk])
            go_ret
            exact ⟨ret_int hf.out.symm, bthen HB.out hb⟩
          | false =>
            have hf := Lib.hid (show chk l = 0 by unfold chk; rw [if_neg (by rw [hg.out]; decide), if_neg (by rw [ha.out]; decide), if_neg (by rw [hk]; decide)])
            go_wp2_with (go_at_call 31; refine (has_kor _ _ _ _ _ (HR.out.below HB.out) (HG.out.below HB.out) hok.out).mono ?_; rintro e w1 ⟨rfl, hb⟩; rw [hk])
            go_ret
            exact ⟨ret_int hf.out.symm, bthen HB.out hb⟩
end Go.Proofs.YtamekpldmplenaaDoor
