import Derived.Test.YtamekpldmplenaaDoorBase
namespace Go.Proofs.YtamekpldmplenaaDoor
open Go.RowKit Go.Shelf

theorem take_step {α : Type} {xs ys : List α} {k : Nat} {x : α} (h : Hid (xs.take k = ys.take k)) (hx : Hid (xs[k]? = some x)) (hy : Hid (ys[k]? = some x)) : Hid (xs.take (k + 1) = ys.take (k + 1)) := by
  obtain ⟨h1, rfl⟩ := List.getElem?_eq_some_iff.1 hx.out
  obtain ⟨h2, e⟩ := List.getElem?_eq_some_iff.1 hy.out
  show _ = _
  rw [List.take_succ_eq_append_getElem h1, List.take_succ_eq_append_getElem h2, h.out, e]
theorem ne_at {α : Type} {xs ys : List α} {k : Nat} {x y : α} (hx : Hid (xs[k]? = some x)) (hy : Hid (ys[k]? = some y)) (h : x ≠ y) : xs ≠ ys := by
  rintro rfl
  have := hx.out.symm.trans hy.out
  cases this; exact h rfl
theorem eq_all {α : Type} {xs ys : List α} {k : Nat} (h : Hid (xs.take k = ys.take k)) (h1 : xs.length ≤ k) (h2 : ys.length ≤ k) : xs = ys := by
  have := h.out
  rwa [List.take_of_length_le h1, List.take_of_length_le h2] at this

set_option maxHeartbeats 1000000 in
theorem sliceEq_any (A : Option Addr) (n c : Nat) (xs : List Int) (A' : Option Addr) (n' c' : Nat) (ys : List Int) (w : World) (hR : RdI w A n xs) (hR' : RdI w A' n' ys) :
    Calls Tryd.prog 43 #[.slice A n c, .slice A' n' c'] w fun e w' => e = .returned (.bool (decide (xs = ys))) ∧ Below w.heap.size w w' := by
  have hn := hR.bd
  have hn' := hR'.bd
  have hl := Lib.hid hR.len
  have hl' := Lib.hid hR'.len
  have HR := Lib.hid hR; have HR' := Lib.hid hR'
  clear hR hR'
  by_cases hne : n = n'
  · subst hne
    have b0 : ((n : Int) != (n : Int)) = false := by simp
    go_enter Tryd.func43, Tryd.ntmps43
    go_wp2_with fail
    go_loopw [13] (fun s1 wr => ∃ k : Nat, s1 = .int .i64 k ∧ k ≤ n ∧ Hid (xs.take k = ys.take k) ∧ Below w.heap.size w wr)
      (fun s1 _ => n - (intOf s1).toNat)
    case atStart => exact ⟨0, rfl, by omega, by simp [Hid], Below.refl _ _⟩
    case round =>
      obtain ⟨k, rfl, hk, HK, hB⟩ := hrel
      by_cases hlt : k < n
      · have hlt' : (k : Int) < (n : Int) := by omega
        obtain ⟨b, o, rfl⟩ := HR.out.addr (by omega)
        obtain ⟨b', o', rfl⟩ := HR'.out.addr (by omega)
        obtain ⟨x, hx, cx⟩ := RdI.elt (HR.out.below hB) hlt
        obtain ⟨y, hy, cy⟩ := RdI.elt (HR'.out.below hB) hlt
        have HB := Lib.hid hB
        clear hB
        by_cases hxy : x = y
        · subst hxy
          have b1 : (x != x) = false := by simp
          go_wp2_with fail
          go_quiet (fail)
          go_wp2_with fail
          go_roundw
          case rel => exact ⟨k + 1, by go_num, by omega, take_step HK hx hy, bdrewN HB.out _⟩
          case measure => simp [intOf] <;> omega
        · have b1 := bne_iff_ne.2 hxy
          have hf := Lib.hid (decide_eq_false (ne_at hx hy hxy))
          clear hxy
          go_wp2_with fail
          go_quiet (fail)
          go_wp2_with fail
          go_ret
          exact ⟨ret_bool hf.out.symm, bdrewN HB.out _⟩
      · have hf := Lib.hid (decide_eq_true (eq_all HK (by have := hl.out; omega) (by have := hl'.out; omega)))
        go_wp2_with fail
        go_ret
        exact ⟨ret_bool hf.out.symm, hB⟩
  · have b0 : ((n : Int) != (n' : Int)) = true := by rw [bne_iff_ne]; omega
    have hf := Lib.hid (show decide (xs = ys) = false from decide_eq_false (by rintro rfl; exact hne (by rw [← hl.out, hl'.out])))
    clear hne
    go_enter Tryd.func43, Tryd.ntmps43
    go_wp2_with fail
    go_ret
    exact ⟨ret_bool hf.out.symm, Below.refl _ _⟩

set_option maxHeartbeats 1000000 in
theorem refCompare_any (A : Option Addr) (n c : Nat) (xs : List Int) (A' : Option Addr) (n' c' : Nat) (ys : List Int) (w : World) (hR : RdI w A n xs) (hR' : RdI w A' n' ys) :
    Calls Tryd.prog 38 #[.slice A n c, .slice A' n' c'] w fun e w' => ∃ r : Int, (r == 0) = decide (xs = ys) ∧ e = .returned (.int .i64 r) ∧ Below w.heap.size w w' := by
  have hn := hR.bd
  have hn' := hR'.bd
  have hl := Lib.hid hR.len
  have hl' := Lib.hid hR'.len
  have HR := Lib.hid hR; have HR' := Lib.hid hR'
  clear hR hR'
  go_enter Tryd.func38, Tryd.ntmps38
  go_wp2_with fail
  go_loopw [5] (fun s1 wr => ∃ k : Nat, s1 = .int .i64 k ∧ k ≤ n ∧ k ≤ n' ∧ Hid (xs.take k = ys.take k) ∧ Below w.heap.size w wr)
    (fun s1 _ => n - (intOf s1).toNat)
  case atStart => exact ⟨0, rfl, by omega, by omega, by simp [Hid], Below.refl _ _⟩
  case round =>
    obtain ⟨k, rfl, hk, hk', HK, hB⟩ := hrel
    by_cases hlt : k < n ∧ k < n'
    · obtain ⟨h1, h2⟩ := hlt
      have hlt' : (k : Int) < (n : Int) := by omega
      have hlt2 : (k : Int) < (n' : Int) := by omega
      obtain ⟨b, o, rfl⟩ := HR.out.addr (by omega)
      obtain ⟨b', o', rfl⟩ := HR'.out.addr (by omega)
      obtain ⟨x, hx, cx⟩ := RdI.elt (HR.out.below hB) h1
      obtain ⟨y, hy, cy⟩ := RdI.elt (HR'.out.below hB) h2
      have HB := Lib.hid hB
      clear hB
      rcases Int.lt_trichotomy x y with hxy | hxy | hxy
      · have hf := Lib.hid (decide_eq_false (ne_at hx hy (by omega)))
        have hd := decide_eq_true hxy
        go_wp2_with fail
        go_quiet (fail)
        go_wp2_with fail
        go_ret
        exact ⟨-1, by rw [hf.out]; rfl, rfl, bdrewN HB.out _⟩
      · subst hxy
        have hd : decide (x < x) = false := by simp
        go_wp2_with fail
        go_quiet (fail)
        go_wp2_with fail
        go_quiet (fail)
        go_wp2_with fail
        go_roundw
        case rel => exact ⟨k + 1, by go_num, by omega, by omega, take_step HK hx hy, by repeat (first | exact HB.out | refine bdrewN ?_ _)⟩
        case measure => simp [intOf] <;> omega
      · have hf := Lib.hid (decide_eq_false (ne_at hx hy (by omega)))
        have hd : decide (x < y) = false := decide_eq_false (by omega)
        have hd' := decide_eq_true hxy
        go_wp2_with fail
        go_quiet (fail)
        go_wp2_with fail
        go_quiet (fail)
        go_wp2_with fail
        go_ret
        exact ⟨1, by rw [hf.out]; rfl, rfl, by repeat (first | exact HB.out | refine bdrewN ?_ _)⟩
    · rcases Nat.lt_trichotomy n n' with h | h | h
      · have e : k = n := by omega
        subst e
        have hf := Lib.hid (show decide (xs = ys) = false from decide_eq_false (by rintro rfl; have := hl.out; have := hl'.out; omega))
        have h1 : ¬ (k : Int) < (k : Int) := by omega
        have h2 : (k : Int) < (n' : Int) := by omega
        clear hlt
        go_wp2_with fail
        go_ret
        exact ⟨-1, by rw [hf.out]; rfl, rfl, hB⟩
      · subst h
        have e : k = n := by omega
        subst e
        have hf := Lib.hid (decide_eq_true (eq_all HK (by have := hl.out; omega) (by have := hl'.out; omega)))
        have h1 : ¬ (k : Int) < (k : Int) := by omega
        clear hlt
        go_wp2_with fail
        go_ret
        exact ⟨0, by rw [hf.out]; rfl, rfl, hB⟩
      · have e : k = n' := by omega
        subst e
        have hf := Lib.hid (show decide (xs = ys) = false from decide_eq_false (by rintro rfl; have := hl.out; have := hl'.out; omega))
        have h1 : (k : Int) < (n : Int) := by omega
        have h2 : ¬ (k : Int) < (k : Int) := by omega
        have h3 : ¬ (n : Int) < (k : Int) := by omega
        clear hlt
        go_wp2_with fail
        go_ret
        exact ⟨1, by rw [hf.out]; rfl, rfl, hB⟩

set_option maxHeartbeats 400000 in
theorem refEqual_any (A : Option Addr) (n c : Nat) (xs : List Int) (A' : Option Addr) (n' c' : Nat) (ys : List Int) (w : World) (hR : RdI w A n xs) (hR' : RdI w A' n' ys) :
    Calls Tryd.prog 21 #[.slice A n c, .slice A' n' c'] w fun e w' => e = .returned (.bool (decide (xs = ys))) ∧ Below w.heap.size w w' := by
  have HR := Lib.hid hR; have HR' := Lib.hid hR'
  clear hR hR'
  go_enter Tryd.func21, Tryd.ntmps21
  go_wp2_with (go_at_call 38; refine (refCompare_any _ _ _ _ _ _ _ _ _ HR.out HR'.out).mono ?_; rintro e w1 ⟨r, hr, rfl, hb⟩; have Hr := Lib.hid hr; clear hr)
  go_ret
  exact ⟨ret_bool Hr.out, hb⟩
end Go.Proofs.YtamekpldmplenaaDoor
