import Derived.Test.YtamekpldmplenaaDoorRefA
namespace Go.Proofs.YtamekpldmplenaaDoor
open Go.RowKit Go.Shelf

theorem kor_step {s : Sp} {k : Nat} (H : Hid (∀ j (h : j < 4), j < k → meets s (rgs[j]'h) = false)) (hk : ¬ k < 4) : kor s = false := kor_no s (fun j h _ => H.out j h (by omega))
theorem kor_yes {s : Sp} {k : Nat} (hk : k < 4) (h : meets s (rgs[k]'hk) = true) : kor s = true := List.any_eq_true.2 ⟨rgs[k]'hk, List.getElem_mem hk, h⟩
theorem rgs_at {k : Nat} {lo hi : Int} (h : Hid (rgs[k]? = some ⟨lo, hi⟩)) (hk : k < 4) : rgs[k]'hk = ⟨lo, hi⟩ := by
  have := h.out
  rw [List.getElem?_eq_getElem (show k < rgs.length from hk)] at this
  exact Option.some.inj this
theorem chk_11 {l : List Sp} (h1 : l.any bad1 = false) (h2 : adj l = false) {i : Nat} {s : Sp} (hs : l[i]? = some s) (h : kor s = true) : chk l = 11 := by
  unfold chk; rw [if_neg (by rw [h1]; decide), if_neg (by rw [h2]; decide), if_pos (any_at hs h)]
theorem chk_0 {l : List Sp} (h1 : l.any bad1 = false) (h2 : adj l = false) (h3 : l.any kor = false) : chk l = 0 := by
  unfold chk; rw [if_neg (by rw [h1]; decide), if_neg (by rw [h2]; decide), if_neg (by rw [h3]; decide)]

set_option maxRecDepth 100000 in
set_option maxHeartbeats 4000000 in
theorem refCheck_any (A : Option Addr) (n c : Nat) (l : List Sp) (w : World) (hR : RdSp w A n l) :
    Calls Tryd.prog 14 #[.slice A n c] w fun e w' => e = .returned (.int .i64 (chk l)) ∧ Below w.heap.size w w' := by
  have hn := hR.bd
  have hlen := Lib.hid hR.len
  have HR := Lib.hid hR
  clear hR
  go_enter Tryd.func14, Tryd.ntmps14
  go_wp2_with fail
  go_loopw [3] (fun i wr => ∃ k : Nat, k ≤ n ∧ i = .int .i64 k ∧ Hid (∀ (i : Nat) (s : Sp), i < k → l[i]? = some s → bad1 s = false) ∧ Below w.heap.size w wr)
    (fun i _ => n - (intOf i).toNat)
  case atStart => exact ⟨0, by omega, rfl, fun j h hk => absurd hk (by omega), Below.refl _ _⟩
  case round =>
    obtain ⟨k, hk, rfl, HJ, hB⟩ := hrel
    have HB := Lib.hid hB
    by_cases hlt : k < n
    · have hlt' : (k : Int) < (n : Int) := by omega
      obtain ⟨b, o, rfl⟩ := HR.out.addr (by omega)
      obtain ⟨lo, hi, val, hs, c0, c1, c2⟩ := RdSp.elt (HR.out.below hB) hlt
      clear hB
      by_cases h1 : 0 ≤ lo ∧ lo ≤ 1114111
      · have v1 := vld_true h1
        by_cases h2 : 0 ≤ hi ∧ hi ≤ 1114111
        · have v2 := vld_true h2
          by_cases h3 : hi < lo
          · have d3 := decide_eq_true h3
            go_wp2_with fail
            go_quiet ((go_at_call 33; exact Calls.quiet_of_same (valid_any _ _)))
            go_wp2_with fail
            go_ret
            exact ⟨ret_int (chk_1 hs.out (bad1_true (by omega))).symm, bdrewN HB.out _⟩
          · have d3 := decide_eq_false h3
            by_cases h4 : val < 1
            · have d4 := decide_eq_true h4
              go_wp2_with fail
              go_quiet ((go_at_call 33; exact Calls.quiet_of_same (valid_any _ _)))
              go_wp2_with fail
              go_ret
              exact ⟨ret_int (chk_1 hs.out (bad1_true (by omega))).symm, bdrewN HB.out _⟩
            · have d4 := decide_eq_false h4
              by_cases h5 : 254 < val
              · have d5 := decide_eq_true h5
                go_wp2_with fail
                go_quiet ((go_at_call 33; exact Calls.quiet_of_same (valid_any _ _)))
                go_wp2_with fail
                go_ret
                exact ⟨ret_int (chk_1 hs.out (bad1_true (by omega))).symm, bdrewN HB.out _⟩
              · have d5 := decide_eq_false h5
                go_wp2_with fail
                go_quiet ((go_at_call 33; exact Calls.quiet_of_same (valid_any _ _)))
                go_wp2_with fail
                go_roundw
                case rel => exact ⟨k + 1, by omega, by go_num, upto_step HJ hs (bad1_false (by omega)), bdrewN HB.out _⟩
                case measure => simp [intOf] <;> omega
        · have v2 := vld_false h2
          go_wp2_with fail
          go_quiet ((go_at_call 33; exact Calls.quiet_of_same (valid_any _ _)))
          go_wp2_with fail
          go_ret
          exact ⟨ret_int (chk_1 hs.out (bad1_true (by omega))).symm, bdrewN HB.out _⟩
      · have v1 := vld_false h1
        go_wp2_with fail
        go_quiet ((go_at_call 33; exact Calls.quiet_of_same (valid_any _ _)))
        go_wp2_with fail
        go_ret
        exact ⟨ret_int (chk_1 hs.out (bad1_true (by omega))).symm, bdrewN HB.out _⟩
    · have hg := Lib.hid (any_no (p := bad1) (l := l) fun i s h => HJ.out i s (by have := (List.getElem?_eq_some_iff.1 h).1; rw [hlen.out] at this; omega) h)
      clear hB
      go_wp2_with fail
      go_loopw [4] (fun i wr => ∃ m : Nat, m + 1 ≤ n + 1 ∧ i = .int .i64 ((m : Int) + 1) ∧ Hid (∀ (i : Nat) (a b : Sp), i < m → l[i]? = some a → l[i + 1]? = some b → bad2 a b = false) ∧ Below w.heap.size w wr)
        (fun i _ => n + 1 - (intOf i).toNat)
      case atStart => exact ⟨0, by omega, by go_num, fun j a b hk => absurd hk (by omega), HB.out⟩
      case round =>
        obtain ⟨m, hm, rfl, HP, hB⟩ := hrel
        clear HB
        have HB := Lib.hid hB
        by_cases hlt : m + 1 < n
        · obtain ⟨b, o, rfl⟩ := HR.out.addr (by omega)
          obtain ⟨lo, hi, val, hs, c0, c1, c2⟩ := RdSp.elt (HR.out.below hB) (show m < n by omega)
          obtain ⟨lo', hi', val', hs', c0', c1', c2'⟩ := RdSp.elt (HR.out.below hB) hlt
          have hgd := good1 hg.out hs.out
          obtain ⟨e1, e2, e3, e4, e5⟩ := hgd
          clear hB
          have hlt' : (m : Int) + 1 < (n : Int) := by omega
          have g0 : (0 : Int) ≤ (m : Int) + 1 := by omega
          have gm : (m : Int) < (n : Int) := by omega
          have gw : IntKind.i64.wrap (m : Int) = (m : Int) := IntWalk.i64_in _ (by omega)
          have gw2 : IntKind.i64.wrap (hi + 1) = hi + 1 := IntWalk.i64_in _ (by omega)
          have gt : ((m : Int) + 1).toNat = m + 1 := by omega
          by_cases h1 : lo' ≤ hi
          · have d1 := decide_eq_true h1
            go_wp2_with fail
            go_quiet (fail)
            go_wp2_with fail
            go_ret
            exact ⟨ret_int (chk_4 hg.out hs.out hs'.out (bad2_true (by omega))).symm, bdrewN HB.out _⟩
          · have d1 := decide_eq_false h1
            by_cases h2 : lo' = hi + 1
            · have H2 := Lib.hid h2
              have d2 := beq_iff_eq.2 h2
              clear h2
              by_cases h3 : val' = val
              · have H3 := Lib.hid h3
                have d3 := beq_iff_eq.2 h3
                clear h3
                go_wp2_with fail
                go_quiet (fail)
                go_wp2_with fail
                go_ret
                exact ⟨ret_int (chk_4 hg.out hs.out hs'.out (bad2_true (by have := H2.out; have := H3.out; omega))).symm, bdrewN HB.out _⟩
              · have d3 := beq_eq_false_iff_ne.2 h3
                go_wp2_with fail
                go_quiet (fail)
                go_wp2_with fail
                go_roundw
                case rel => exact ⟨m + 1, by omega, by go_num, upto2_step HP hs hs' (bad2_false (by have := H2.out; omega)), bdrewN HB.out _⟩
                case measure => simp [intOf] <;> omega
            · have d2 := beq_eq_false_iff_ne.2 h2
              go_wp2_with fail
              go_quiet (fail)
              go_wp2_with fail
              go_roundw
              case rel => exact ⟨m + 1, by omega, by go_num, upto2_step HP hs hs' (bad2_false (by omega)), bdrewN HB.out _⟩
              case measure => simp [intOf] <;> omega
        · have ha := Lib.hid (adj_false l fun i a b h k => HP.out i a b (by have := (List.getElem?_eq_some_iff.1 k).1; rw [hlen.out] at this; omega) h k)
          have hlt' : ¬ (m : Int) + 1 < (n : Int) := by omega
          clear hB
          go_wp2_with (go_at_call 34; refine (hangul_any _).mono ?_; rintro e w1 ⟨A1, c1, hr, rfl, hb⟩; have HRg := Lib.hid hr; have HB1 := Lib.hid (bthen HB.out hb); clear hr hb)
          go_loopw [6] (fun i wr => ∃ k : Nat, k ≤ n ∧ i = .int .i64 k ∧ Hid (∀ (i : Nat) (s : Sp), i < k → l[i]? = some s → kor s = false) ∧ Below w.heap.size w wr ∧ Hid (Below w1.heap.size w1 wr))
            (fun i _ => n - (intOf i).toNat)
          case atStart => exact ⟨0, by omega, rfl, fun j h hk => absurd hk (by omega), HB1.out, Below.refl _ _⟩
          case round =>
            clear HB
            obtain ⟨k, hk, rfl, HJ2, hB, HB2⟩ := hrel
            have HB := Lib.hid hB
            by_cases hlt3 : k < n
            · obtain ⟨b, o, rfl⟩ := HR.out.addr (by omega)
              have hs : ∃ lo hi val, Hid (l[k]? = some (⟨lo, hi, val⟩ : Sp)) := by obtain ⟨lo, hi, val, hs, _⟩ := RdSp.elt HR.out hlt3; exact ⟨lo, hi, val, hs⟩
              obtain ⟨lo, hi, val, hs⟩ := hs
              obtain ⟨wo, rfl⟩ : ∃ wo : World, wo = wr := ⟨_, rfl⟩
              clear hB
              go_wp2_with fail
              go_loopw [7] (fun i wr => ∃ j : Nat, j ≤ 4 ∧ i = .int .i64 j ∧ Hid (∀ q (h : q < 4), q < j → meets ⟨lo, hi, val⟩ (rgs[q]'h) = false) ∧ Below w.heap.size w wr ∧ Hid (Below w1.heap.size w1 wr))
                (fun i _ => 4 - (intOf i).toNat)
              case atStart => exact ⟨0, by omega, rfl, fun j h hk => absurd hk (by omega), HB.out, HB2.out⟩
              case round =>
                clear HB HB2
                obtain ⟨j, hj, rfl, HK, hB, HB2⟩ := hrel
                by_cases hj4 : j < 4
                · obtain ⟨b2, o2, rfl⟩ := HRg.out.addr (by omega)
                  obtain ⟨rlo, rhi, hr, d0, d1⟩ := RdRg.elt (HRg.out.below HB2.out) hj4
                  obtain ⟨lo', hi', val', hs', c0, c1, c2⟩ := RdSp.elt (HR.out.below hB) hlt3
                  have he : Hid ((⟨lo', hi', val'⟩ : Sp) = ⟨lo, hi, val⟩) := Option.some.inj (hs'.out.symm.trans hs.out)
                  have he1 : lo' = lo := congrArg Sp.lo he.out
                  have he2 : hi' = hi := congrArg Sp.hi he.out
                  subst he1 he2
                  have HB := Lib.hid hB
                  have hat := Lib.hid (rgs_at hr hj4)
                  have hk3 : (k : Int) < (n : Int) := by omega
                  have hj3 : (j : Int) < 4 := by omega
                  clear hB
                  by_cases h1 : lo' ≤ rhi
                  · have e1 := decide_eq_true h1
                    by_cases h2 : rlo ≤ hi'
                    · have e2 := decide_eq_true h2
                      have hf := Lib.hid (chk_11 hg.out ha.out hs.out (kor_yes hj4 (by rw [hat.out]; exact decide_eq_true ⟨h1, h2⟩)))
                      go_wp2_with fail
                      go_quiet (fail)
                      go_wp2_with fail
                      go_ret
                      exact ⟨ret_int hf.out.symm, bdrewN HB.out _⟩
                    · have e2 := decide_eq_false h2
                      go_wp2_with fail
                      go_quiet (fail)
                      go_wp2_with fail
                      go_roundw
                      case rel => exact ⟨j + 1, by omega, by go_num, meets_step _ j hj4 HK (by rw [hat.out]; exact decide_eq_false (fun h => by have h' := h.2; dsimp only at h'; omega)), bdrewN HB.out _, bdrewN HB2.out _⟩
                      case measure => simp [intOf] <;> omega
                  · have e1 := decide_eq_false h1
                    go_wp2_with fail
                    go_quiet (fail)
                    go_wp2_with fail
                    go_roundw
                    case rel => exact ⟨j + 1, by omega, by go_num, meets_step _ j hj4 HK (by rw [hat.out]; exact decide_eq_false (fun h => by have h' := h.1; dsimp only at h'; omega)), bdrewN HB.out _, bdrewN HB2.out _⟩
                    case measure => simp [intOf] <;> omega
                · have hj3 : ¬ (j : Int) < 4 := by omega
                  go_wp2_with fail
                  go_roundw
                  case rel => exact ⟨k + 1, by omega, by go_num, upto_step HJ2 hs (kor_step HK hj4), hB, HB2.out⟩
                  case measure => simp [intOf] <;> omega
            · have hf := Lib.hid (chk_0 hg.out ha.out (any_no (p := kor) (l := l) fun i s h => HJ2.out i s (by have := (List.getElem?_eq_some_iff.1 h).1; rw [hlen.out] at this; omega) h))
              go_wp2_with fail
              go_ret
              exact ⟨ret_int hf.out.symm, hB⟩
end Go.Proofs.YtamekpldmplenaaDoor
