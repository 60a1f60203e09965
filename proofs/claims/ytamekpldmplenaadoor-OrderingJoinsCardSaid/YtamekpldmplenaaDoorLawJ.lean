/- OrderingJoins, walked: Sort goes over a concatenation in front of a starter. -/
import Derived.Test.YtamekpldmplenaaDoorAlive
import Derived.Test.YtamekpldmplenaaDoorAppI
namespace Go.Proofs.YtamekpldmplenaaDoor
open Go.RowKit Go.Shelf

theorem srtd_head {f : Int → Int} {b zs : List Int} (h : F0 f b zs) (hb : ∀ y, b.head? = some y → f y = 0) : ∀ y, zs.head? = some y → f y = 0 := by
  intro y hy
  cases zs with
  | nil => simp at hy
  | cons z zs =>
    simp at hy; subst hy
    cases b with
    | nil => have := h.length; simp at this
    | cons x b =>
      have hx := hb x rfl
      have := h (f z)
      rw [List.filter_cons_of_pos (by simp), List.filter_cons_of_pos (by simp [hx])] at this
      rw [(List.cons.inj this).1]; exact hx
theorem srtd_join {f : Int → Int} {a b ys zs us : List Int} (h1 : F0 f a ys ∧ Ord f ys) (h2 : F0 f b zs ∧ Ord f zs) (h3 : F0 f (([] ++ a) ++ b) us ∧ Ord f us) (hb : ∀ y, b.head? = some y → f y = 0) : us = ([] ++ ys) ++ zs :=
  srtd_eq h3 ⟨by simpa using h1.1.append h2.1, by simpa using Ord.append_starter h1.2 h2.2 (srtd_head h2.1 hb)⟩

set_option maxHeartbeats 4000000 in
theorem joins_any (A : Option Addr) (n c : Nat) (l : List Sp) (A1' : Option Addr) (len1 cap1 : Nat) (t1 : List Int) (A2' : Option Addr) (len2 cap2 : Nat) (t2 : List Int) (w : World) (hR : RdSp w A n l) (hT1 : RdI w A1' len1 t1) (hT2 : RdI w A2' len2 t2) (hG : Glob w) :
    Calls Tryd.prog 9 #[.slice A n c, .slice A1' len1 cap1, .slice A2' len2 cap2] w fun e w' => e = .returned (.bool true) ∧ Below w.heap.size w w' := by
  have HR := Lib.hid hR; have HG := Lib.hid hG; have HT1 := Lib.hid hT1; have HT2 := Lib.hid hT2
  have hl1 := Lib.hid hT1.len; have hl2 := Lib.hid hT2.len
  clear hR hG hT1 hT2
  by_cases hs : n ≤ 16
  · have hd := decide_eq_true hs
    by_cases h1 : len1 ≤ 20
    · have g1 : ¬ (20 : Int) < (len1 : Int) := by omega
      by_cases h2 : len2 ≤ 20
      · have g2 : ¬ (20 : Int) < (len2 : Int) := by omega
        by_cases h0 : len2 = 0
        · have HH : Hid (∀ y, t2.head? = some y → cls l y = 0) := fun y hy => by rw [List.eq_nil_of_length_eq_zero (hl2.out.trans h0)] at hy; simp at hy
          have g0 : ¬ (0 : Int) < (len2 : Int) := by omega
          clear h0
          go_enter Tryd.func9, Tryd.ntmps9
          go_wp2_with fail
          refine (small_any _ _ _ _).mono ?_
          rintro e w1 ⟨rfl, rfl⟩
          rw [hd]
          have HB0 := Lib.hid (Below.refl w1.heap.size w1)
          go_wp2_with fail
          have hA0 := World.ownsRow_lit (base := w1.heap.size) (e := 3) (size := 1) w1 #[] 0 (Nat.le_refl _) (by simp [maxLen]) rfl
          have hbA := ba w1 (.cells #[] 3)
          have HB0' := Lib.hid (bthen HB0.out hbA)
          refine (sort_any _ _ _ l _ _ _ t1 _ (HR.out.below HB0'.out) (HT1.out.below HB0'.out) (HG.out.below HB0'.out)).mono ?_
          rintro e x1 ⟨A1, n1, c1, ys, h1, h2, rfl, hb⟩
          have HX1 := Lib.hid (bthen HB0'.out hb)
          have HA1 := Lib.hid (own_below hA0 hb)
          have hs1 : w1.heap.size ≤ x1.heap.size := Nat.le_trans hbA.size hb.size
          have HY := Lib.hid h1; have EY := Lib.hid h2
          have hn1 : n1 = len1 := by rw [← h1.len, h2.1.length, hl1.out]
          have HW0 : Hid (Below w1.heap.size w1 x1) := bthen hbA hb
          have hs0 : w1.heap.size ≤ w1.heap.size := HB0.out.size
          clear h1 h2 hb hA0 hbA
          subst hn1
          go_wp2_with (at_builtin; refine wpList_append_ints rfl _ _ rfl w1.heap.size _ 0 [] rfl HA1.out A1 n1 c1 ys rfl HY.out (by omega) hs1 ?_; intro v2 x2 hown hbel; have HA2 := Lib.hid hown; have HW2 := Lib.hid (HW0.out.trans hbel); have HX2 := Lib.hid (HX1.out.trans (hbel.mono hs0)); have hs2 : w1.heap.size ≤ x2.heap.size := HW2.out.size; clear hown hbel)
          refine (sort_any _ _ _ l _ _ _ t2 _ (HR.out.below HX2.out) (HT2.out.below HX2.out) (HG.out.below HX2.out)).mono ?_
          rintro e x3 ⟨A3, n3, c3, zs, h1, h2, rfl, hb⟩
          have HX3 := Lib.hid (bthen HX2.out hb)
          have HA3 := Lib.hid (own_below HA2.out hb)
          have hs3 : w1.heap.size ≤ x3.heap.size := Nat.le_trans hs2 hb.size
          have HW3 := Lib.hid (HW2.out.trans (hb.mono hs2))
          have HZ := Lib.hid h1; have EZ := Lib.hid h2
          have hn3 : n3 = len2 := by rw [← h1.len, h2.1.length, hl2.out]
          clear h1 h2 hb
          subst hn3
          have flagA := trivial; have flagB := trivial; have flagC := trivial
          go_wp2_with (at_builtin; first | (clear flagA; refine wpList_append_ints rfl _ _ rfl w1.heap.size _ (0 + n1) ([] ++ ys) rfl HA3.out A3 n3 c3 zs rfl HZ.out (by omega) hs3 ?_; intro v4 x4 hown hbel; obtain ⟨A4, c4, rfl, hrd⟩ := own_rd encI_len (by omega) hown (by omega); have HD4 := Lib.hid (show RdI x4 A4 (n1 + n3) (([] ++ ys) ++ zs) from by rw [Nat.zero_add] at hrd; exact hrd); have HX4 := Lib.hid (HX3.out.trans (hbel.mono hs0)); have hA5 := Lib.hid (World.ownsRow_lit (base := x4.heap.size) (e := 3) (size := 1) x4 #[] 0 (Nat.le_refl _) (by simp [maxLen]) rfl); have HW5 : Hid (Below x4.heap.size x4 (x4.alloc (.cells #[] 3))) := ba x4 _; have HX5 := Lib.hid (bthen HX4.out HW5.out); have hs4 : w1.heap.size ≤ x4.heap.size := HX4.out.size; clear hown hbel hrd) | (clear flagB; refine wpList_append_ints rfl _ _ rfl x4.heap.size _ 0 [] rfl hA5.out A1' n1 cap1 t1 rfl (HT1.out.below HX5.out) (by omega) HW5.out.size ?_; intro v6 x6 hown hbel; have HA6 := Lib.hid hown; have HW6 := Lib.hid (HW5.out.trans hbel); have HX6 := Lib.hid (HX5.out.trans (hbel.mono hs4)); clear hown hbel) | (clear flagC; refine wpList_append_ints rfl _ _ rfl x4.heap.size _ (0 + n1) ([] ++ t1) rfl HA6.out A2' n3 cap2 t2 rfl (HT2.out.below HX6.out) (by omega) HW6.out.size ?_; intro v7 x7 hown hbel; obtain ⟨A7, c7, rfl, hrd⟩ := own_rd encI_len (by omega) hown (by omega); have HD7 := Lib.hid (show RdI x7 A7 (n1 + n3) (([] ++ t1) ++ t2) from by rw [Nat.zero_add] at hrd; exact hrd); have HW7 := Lib.hid (HW6.out.trans hbel); have HX7 := Lib.hid (HX6.out.trans (hbel.mono hs4)); clear hown hbel hrd))
          refine (sort_any _ _ _ l _ _ _ (([] ++ t1) ++ t2) _ (HR.out.below HX7.out) HD7.out (HG.out.below HX7.out)).mono ?_
          rintro e x8 ⟨A8, n8, c8, us, h1, h2, rfl, hb⟩
          have HX8 := Lib.hid (bthen HX7.out hb)
          have HD8 := Lib.hid (HD4.out.below (HW7.out.trans (hb.mono HW7.out.size)))
          have HU := Lib.hid h1
          have eU := decide_eq_true (srtd_join EY.out EZ.out h2 HH.out)
          clear h1 h2 hb
          go_wp2_with fail
          refine (refEqual_any _ _ _ us _ _ _ (([] ++ ys) ++ zs) _ HU.out HD8.out).mono ?_
          rintro e x9 ⟨rfl, hb⟩
          rw [eU]
          have HX9 := Lib.hid (bthen HX8.out hb)
          clear hb eU
          go_wp2_with fail
          refine (alive_any _ (HG.out.below HX9.out)).mono ?_
          rintro e y ⟨rfl, hb⟩
          have HY9 := Lib.hid (bthen HX9.out hb)
          clear hb
          go_wp2_with fail
          go_ret
          exact ⟨rfl, HY9.out⟩
        · have h0' : (0 : Int) < (len2 : Int) := by omega
          obtain ⟨b, off, rfl⟩ := HT2.out.addr (by omega)
          obtain ⟨y, hy, cy⟩ := RdI.elt HT2.out (show 0 < len2 by omega)
          rw [Nat.add_zero] at cy
          have hyh : t2.head? = some y := by rw [List.head?_eq_getElem?]; exact hy.out
          have HYh := Lib.hid hyh
          clear hyh hy
          by_cases hc : cls l y = 0
          · have e0 := beq_iff_eq.2 hc
            have HH : Hid (∀ z, t2.head? = some z → cls l z = 0) := fun z hz => by rw [HYh.out] at hz; cases hz; exact hc
            clear hc
            go_enter Tryd.func9, Tryd.ntmps9
            go_wp2_with fail
            refine (small_any _ _ _ _).mono ?_
            rintro e w1 ⟨rfl, rfl⟩
            rw [hd]
            have HB0 := Lib.hid (Below.refl w1.heap.size w1)
            go_wp2_with fail
            refine (starter_any _ _ _ y l _ HR.out HG.out).mono ?_
            rintro e w2 ⟨rfl, hb⟩
            rw [e0]
            have HB2 := Lib.hid hb
            clear hb
            go_wp2_with fail
            have hA0 := World.ownsRow_lit (base := w2.heap.size) (e := 3) (size := 1) w2 #[] 0 (Nat.le_refl _) (by simp [maxLen]) rfl
            have hbA := ba w2 (.cells #[] 3)
            have HB0' := Lib.hid (bthen HB2.out hbA)
            refine (sort_any _ _ _ l _ _ _ t1 _ (HR.out.below HB0'.out) (HT1.out.below HB0'.out) (HG.out.below HB0'.out)).mono ?_
            rintro e x1 ⟨A1, n1, c1, ys, h1, h2, rfl, hb⟩
            have HX1 := Lib.hid (bthen HB0'.out hb)
            have HA1 := Lib.hid (own_below hA0 hb)
            have hs1 : w2.heap.size ≤ x1.heap.size := Nat.le_trans hbA.size hb.size
            have HY := Lib.hid h1; have EY := Lib.hid h2
            have hn1 : n1 = len1 := by rw [← h1.len, h2.1.length, hl1.out]
            have HW0 : Hid (Below w2.heap.size w2 x1) := bthen hbA hb
            have hs0 : w1.heap.size ≤ w2.heap.size := HB2.out.size
            clear h1 h2 hb hA0 hbA
            subst hn1
            go_wp2_with (at_builtin; refine wpList_append_ints rfl _ _ rfl w2.heap.size _ 0 [] rfl HA1.out A1 n1 c1 ys rfl HY.out (by omega) hs1 ?_; intro v2 x2 hown hbel; have HA2 := Lib.hid hown; have HW2 := Lib.hid (HW0.out.trans hbel); have HX2 := Lib.hid (HX1.out.trans (hbel.mono hs0)); have hs2 : w2.heap.size ≤ x2.heap.size := HW2.out.size; clear hown hbel)
            refine (sort_any _ _ _ l _ _ _ t2 _ (HR.out.below HX2.out) (HT2.out.below HX2.out) (HG.out.below HX2.out)).mono ?_
            rintro e x3 ⟨A3, n3, c3, zs, h1, h2, rfl, hb⟩
            have HX3 := Lib.hid (bthen HX2.out hb)
            have HA3 := Lib.hid (own_below HA2.out hb)
            have hs3 : w2.heap.size ≤ x3.heap.size := Nat.le_trans hs2 hb.size
            have HW3 := Lib.hid (HW2.out.trans (hb.mono hs2))
            have HZ := Lib.hid h1; have EZ := Lib.hid h2
            have hn3 : n3 = len2 := by rw [← h1.len, h2.1.length, hl2.out]
            clear h1 h2 hb
            subst hn3
            have flagA := trivial; have flagB := trivial; have flagC := trivial
            go_wp2_with (at_builtin; first | (clear flagA; refine wpList_append_ints rfl _ _ rfl w2.heap.size _ (0 + n1) ([] ++ ys) rfl HA3.out A3 n3 c3 zs rfl HZ.out (by omega) hs3 ?_; intro v4 x4 hown hbel; obtain ⟨A4, c4, rfl, hrd⟩ := own_rd encI_len (by omega) hown (by omega); have HD4 := Lib.hid (show RdI x4 A4 (n1 + n3) (([] ++ ys) ++ zs) from by rw [Nat.zero_add] at hrd; exact hrd); have HX4 := Lib.hid (HX3.out.trans (hbel.mono hs0)); have hA5 := Lib.hid (World.ownsRow_lit (base := x4.heap.size) (e := 3) (size := 1) x4 #[] 0 (Nat.le_refl _) (by simp [maxLen]) rfl); have HW5 : Hid (Below x4.heap.size x4 (x4.alloc (.cells #[] 3))) := ba x4 _; have HX5 := Lib.hid (bthen HX4.out HW5.out); have hs4 : w1.heap.size ≤ x4.heap.size := HX4.out.size; clear hown hbel hrd) | (clear flagB; refine wpList_append_ints rfl _ _ rfl x4.heap.size _ 0 [] rfl hA5.out A1' n1 cap1 t1 rfl (HT1.out.below HX5.out) (by omega) HW5.out.size ?_; intro v6 x6 hown hbel; have HA6 := Lib.hid hown; have HW6 := Lib.hid (HW5.out.trans hbel); have HX6 := Lib.hid (HX5.out.trans (hbel.mono hs4)); clear hown hbel) | (clear flagC; refine wpList_append_ints rfl _ _ rfl x4.heap.size _ (0 + n1) ([] ++ t1) rfl HA6.out (some ⟨b, off, none⟩) n3 cap2 t2 rfl (HT2.out.below HX6.out) (by omega) HW6.out.size ?_; intro v7 x7 hown hbel; obtain ⟨A7, c7, rfl, hrd⟩ := own_rd encI_len (by omega) hown (by omega); have HD7 := Lib.hid (show RdI x7 A7 (n1 + n3) (([] ++ t1) ++ t2) from by rw [Nat.zero_add] at hrd; exact hrd); have HW7 := Lib.hid (HW6.out.trans hbel); have HX7 := Lib.hid (HX6.out.trans (hbel.mono hs4)); clear hown hbel hrd))
            refine (sort_any _ _ _ l _ _ _ (([] ++ t1) ++ t2) _ (HR.out.below HX7.out) HD7.out (HG.out.below HX7.out)).mono ?_
            rintro e x8 ⟨A8, n8, c8, us, h1, h2, rfl, hb⟩
            have HX8 := Lib.hid (bthen HX7.out hb)
            have HD8 := Lib.hid (HD4.out.below (HW7.out.trans (hb.mono HW7.out.size)))
            have HU := Lib.hid h1
            have eU := decide_eq_true (srtd_join EY.out EZ.out h2 HH.out)
            clear h1 h2 hb
            go_wp2_with fail
            refine (refEqual_any _ _ _ us _ _ _ (([] ++ ys) ++ zs) _ HU.out HD8.out).mono ?_
            rintro e x9 ⟨rfl, hb⟩
            rw [eU]
            have HX9 := Lib.hid (bthen HX8.out hb)
            clear hb eU
            go_wp2_with fail
            refine (alive_any _ (HG.out.below HX9.out)).mono ?_
            rintro e y ⟨rfl, hb⟩
            have HY9 := Lib.hid (bthen HX9.out hb)
            clear hb
            go_wp2_with fail
            go_ret
            exact ⟨rfl, HY9.out⟩
          · have e0 := beq_eq_false_iff_ne.2 hc
            clear hc
            go_enter Tryd.func9, Tryd.ntmps9
            go_wp2_with fail
            refine (small_any _ _ _ _).mono ?_
            rintro e w1 ⟨rfl, rfl⟩
            rw [hd]
            have HB0 := Lib.hid (Below.refl w1.heap.size w1)
            go_wp2_with fail
            refine (starter_any _ _ _ y l _ HR.out HG.out).mono ?_
            rintro e w2 ⟨rfl, hb⟩
            rw [e0]
            have HB2 := Lib.hid hb
            clear hb
            go_wp2_with fail
            refine (alive_any _ (HG.out.below HB2.out)).mono ?_
            rintro e y ⟨rfl, hb⟩
            have HY9 := Lib.hid (bthen HB2.out hb)
            clear hb
            go_wp2_with fail
            go_ret
            exact ⟨rfl, HY9.out⟩
      · have g2 : (20 : Int) < (len2 : Int) := by omega
        go_enter Tryd.func9, Tryd.ntmps9
        go_wp2_with fail
        refine (small_any _ _ _ _).mono ?_
        rintro e w1 ⟨rfl, rfl⟩
        rw [hd]
        have HB0 := Lib.hid (Below.refl w1.heap.size w1)
        go_wp2_with fail
        refine (alive_any _ (HG.out.below HB0.out)).mono ?_
        rintro e y ⟨rfl, hb⟩
        have HY9 := Lib.hid (bthen HB0.out hb)
        clear hb
        go_wp2_with fail
        go_ret
        exact ⟨rfl, HY9.out⟩
    · have g1 : (20 : Int) < (len1 : Int) := by omega
      go_enter Tryd.func9, Tryd.ntmps9
      go_wp2_with fail
      refine (small_any _ _ _ _).mono ?_
      rintro e w1 ⟨rfl, rfl⟩
      rw [hd]
      have HB0 := Lib.hid (Below.refl w1.heap.size w1)
      go_wp2_with fail
      refine (alive_any _ (HG.out.below HB0.out)).mono ?_
      rintro e y ⟨rfl, hb⟩
      have HY9 := Lib.hid (bthen HB0.out hb)
      clear hb
      go_wp2_with fail
      go_ret
      exact ⟨rfl, HY9.out⟩
  · have hd := decide_eq_false hs
    go_enter Tryd.func9, Tryd.ntmps9
    go_wp2_with fail
    refine (small_any _ _ _ _).mono ?_
    rintro e w1 ⟨rfl, rfl⟩
    rw [hd]
    have HB0 := Lib.hid (Below.refl w1.heap.size w1)
    go_wp2_with fail
    refine (alive_any _ (HG.out.below HB0.out)).mono ?_
    rintro e y ⟨rfl, hb⟩
    have HY9 := Lib.hid (bthen HB0.out hb)
    clear hb
    go_wp2_with fail
    go_ret
    exact ⟨rfl, HY9.out⟩

end Go.Proofs.YtamekpldmplenaaDoor
