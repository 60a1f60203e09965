/- OrderingExchanges, walked: when two neighbours may change places. -/
import Derived.Test.YtamekpldmplenaaDoorAlive
import Derived.Test.YtamekpldmplenaaDoorAppI
import Derived.Deep.RegionWith
import Derived.Deep.CutRange
namespace Go.Proofs.YtamekpldmplenaaDoor
open Go.RowKit Go.Shelf

/-- Two neighbours that may change places. -/
def free2 (f : Int → Int) (x y : Int) : Prop := (f x ≠ 0 ∧ f y ≠ 0 ∧ f x ≠ f y) ∨ x = y
theorem filter_two {p : Int → Bool} {P S a b : List Int} (h : (P ++ (a ++ S)).filter p = (P ++ (b ++ S)).filter p) : a.filter p = b.filter p := by
  simp only [List.filter_append] at h
  exact List.append_cancel_right (List.append_cancel_left h)
theorem exch_iff {f : Int → Int} {P S : List Int} {x y : Int} : F0 f (P ++ ([x, y] ++ S)) (P ++ ([y, x] ++ S)) ↔ free2 f x y := by
  constructor
  · intro h
    by_cases e : x = y
    · exact .inr e
    · refine .inl ?_
      have h1 := filter_two (h (f y))
      have h2 := filter_two (h (f x))
      simp only [List.filter_cons, List.filter_nil] at h1 h2
      by_cases c1 : f x = 0 ∨ f x = f y
      · simp [c1] at h1
        exact absurd h1.1.symm e
      · by_cases c2 : f y = 0 ∨ f y = f x
        · simp [c2] at h2
          exact absurd h2.1.symm e
        · omega
  · rintro (⟨h1, h2, h3⟩ | rfl)
    · intro c
      simp only [List.filter_append]
      congr 2
      simp only [List.filter_cons, List.filter_nil]
      by_cases c1 : f x = c
      · have c2 : ¬ (f y = 0 ∨ f y = c) := by omega
        simp [c2]
      · have c2 : ¬ (f x = 0 ∨ f x = c) := by omega
        simp [c2]
    · exact F0.refl _
theorem swap_at {t : List Int} {k : Nat} {x y : Int} (hx : t[k]? = some x) (hy : t[k + 1]? = some y) : t = t.take k ++ ([x, y] ++ t.drop (k + 2)) ∧ (t.set k y).set (k + 1) x = t.take k ++ ([y, x] ++ t.drop (k + 2)) := by
  obtain ⟨h1, e1⟩ := List.getElem?_eq_some_iff.1 hx
  obtain ⟨h2, e2⟩ := List.getElem?_eq_some_iff.1 hy
  have e : t = t.take k ++ ([x, y] ++ t.drop (k + 2)) := by
    have h3 : t.drop k = x :: y :: t.drop (k + 2) := by rw [List.drop_eq_getElem_cons h1, e1, List.drop_eq_getElem_cons h2, e2]
    exact (List.take_append_drop k t).symm.trans (by rw [h3]; rfl)
  refine ⟨e, ?_⟩
  have hl : (t.take k).length = k := by simp; omega
  generalize t.take k = P at e hl
  generalize t.drop (k + 2) = S at e
  subst e hl
  rw [List.set_append_right _ _ (by omega), List.set_append_right _ _ (by omega)]
  simp
theorem exch_eq {f : Int → Int} {t us vs : List Int} {k : Nat} {x y : Int} (hx : t[k]? = some x) (hy : t[k + 1]? = some y) (hu : F0 f t us ∧ Ord f us) (hv : F0 f ((t.set k y).set (k + 1) x) vs ∧ Ord f vs) : us = vs ↔ free2 f x y := by
  obtain ⟨e1, e2⟩ := swap_at hx hy
  have key : F0 f t ((t.set k y).set (k + 1) x) ↔ free2 f x y := by
    rw [e2]
    have := @exch_iff f (t.take k) (t.drop (k + 2)) x y
    rwa [← e1] at this
  rw [← key]
  constructor
  · intro e
    subst e
    exact hu.1.trans hv.1.symm
  · intro h
    exact srtd_eq hu ⟨h.trans hv.1, hv.2⟩

set_option maxRecDepth 100000 in
set_option maxHeartbeats 8000000 in
theorem exchanges_any (A : Option Addr) (n c : Nat) (l : List Sp) (A' : Option Addr) (len cap : Nat) (text : List Int) (at' : Int) (w : World) (hR : RdSp w A n l) (hT : RdI w A' len text) (hG : Glob w) :
    Calls Tryd.prog 5 #[.slice A n c, .slice A' len cap, .int .i64 at'] w fun e w' => e = .returned (.bool true) ∧ Below w.heap.size w w' := by
  have HR := Lib.hid hR; have HG := Lib.hid hG; have HT := Lib.hid hT
  have hlen := Lib.hid hT.len
  clear hR hG hT
  by_cases hs : n ≤ 16 ∧ len ≤ 40
  · have hd := decide_eq_true hs
    have hl40 : len ≤ 40 := hs.2
    have gw : IntKind.i64.wrap ((len : Int) - 2) = (len : Int) - 2 := IntWalk.i64_in _ (by omega)
    by_cases h1 : at' < 0
    · go_enter Tryd.func5, Tryd.ntmps5
      go_wp2_with fail
      refine (few_any _ _ _ _ _ _ _).mono ?_
      rintro e w1 ⟨rfl, rfl⟩
      rw [hd]
      have HB0 := Lib.hid (Below.refl w1.heap.size w1)
      go_wp2_with fail
      refine (alive_any _ (HG.out.below HB0.out)).mono ?_
      rintro e y9 ⟨rfl, hb⟩
      have HY9 := Lib.hid (bthen HB0.out hb)
      clear hb
      go_wp2_with fail
      go_ret
      exact ⟨rfl, HY9.out⟩
    · by_cases h2 : (len : Int) - 2 < at'
      · go_enter Tryd.func5, Tryd.ntmps5
        go_wp2_with fail
        refine (few_any _ _ _ _ _ _ _).mono ?_
        rintro e w1 ⟨rfl, rfl⟩
        rw [hd]
        have HB0 := Lib.hid (Below.refl w1.heap.size w1)
        go_wp2_with fail
        refine (alive_any _ (HG.out.below HB0.out)).mono ?_
        rintro e y9 ⟨rfl, hb⟩
        have HY9 := Lib.hid (bthen HB0.out hb)
        clear hb
        go_wp2_with fail
        go_ret
        exact ⟨rfl, HY9.out⟩
      · obtain ⟨k, rfl⟩ : ∃ k : Nat, at' = (k : Int) := ⟨at'.toNat, by omega⟩
        have hk : k + 1 < len := by omega
        clear hs
        obtain ⟨b, off, hAe⟩ := HT.out.addr (by omega)
        have HAE := Lib.hid hAe
        have HT2 : Hid (RdI w (some ⟨b, off, none⟩) len text) := hAe ▸ HT.out
        clear hAe
        obtain ⟨x, hx, cx0⟩ := RdI.elt HT2.out (show k < len by omega)
        obtain ⟨y, hy, _⟩ := RdI.elt HT2.out hk
        have hbs : b < w.heap.size := World.block_lt_of_cell? w _ cx0
        have HX := Lib.hid (show text[k]? = some x from hx.out)
        have HY := Lib.hid (show text[k + 1]? = some y from hy.out)
        have cxx : ∀ W, Below w.heap.size w W → W.cell? ⟨b, off + k, none⟩ = some (.int .i64 x) := fun W hb => by
          obtain ⟨x2, h2, c2⟩ := RdI.elt (HT2.out.below hb) (show k < len by omega)
          rw [HX.out] at h2; cases h2.out; exact c2
        have cyy : ∀ W, Below w.heap.size w W → W.cell? ⟨b, off + (k + 1), none⟩ = some (.int .i64 y) := fun W hb => by
          obtain ⟨x2, h2, c2⟩ := RdI.elt (HT2.out.below hb) hk
          rw [HY.out] at h2; cases h2.out; exact c2
        have CX := Lib.hid cxx; have CY := Lib.hid cyy
        clear hx hy cx0 cxx cyy
        have gk1 : (k : Int) < (len : Int) := by omega
        have gk2 : (k : Int) + 1 < (len : Int) := by omega
        have gk3 : (0 : Int) ≤ (k : Int) + 1 := by omega
        have gk4 : IntKind.i64.wrap ((k : Int) + 1) = (k : Int) + 1 := IntWalk.i64_in _ (by omega)
        have gk5 : ((k : Int) + 1).toNat = k + 1 := by omega
        go_enter Tryd.func5, Tryd.ntmps5
        go_wp2_with fail
        refine (few_any _ _ _ _ _ _ _).mono ?_
        rintro e w1 ⟨rfl, rfl⟩
        rw [hd]
        have HB0 := Lib.hid (Below.refl w1.heap.size w1)
        have hA5 := Lib.hid (World.ownsRow_lit (base := w1.heap.size) (e := 3) (size := 1) w1 #[] 0 (Nat.le_refl _) (by simp [maxLen]) rfl)
        have HW5 : Hid (Below w1.heap.size w1 (w1.alloc (.cells #[] 3))) := ba w1 _
        go_wp2_with (at_builtin; refine wpList_append_ints rfl _ _ rfl w1.heap.size _ 0 [] rfl hA5.out A' len cap text rfl (HT.out.below HW5.out) (by omega) HW5.out.size ?_; intro v2 w2 hown hbel; have hAe := HAE.out; subst hAe; rw [Nat.zero_add, List.nil_append] at hown; obtain ⟨g, cap', rfl, hg1, hg2⟩ := hown.form (by omega); have HO2 := Lib.hid hown; have HB2 := Lib.hid (HW5.out.trans hbel); have cy2 := CY.out w2 HB2.out; have f2 := hown.frozenAt k; have cz2 : ∃ z, w2.cell? ⟨g, k, none⟩ = some z := (by rw [hown.cellAt k (by omega)]; exact ⟨_, List.getElem?_eq_getElem (by rw [flat_len encI_len, hlen.out]; omega)⟩); obtain ⟨z2, cz2⟩ := cz2; obtain ⟨w3, hw3⟩ : ∃ w3, w2.setCell ⟨g, k, none⟩ (.int .i64 y) = w3 := ⟨_, rfl⟩; have hst := hown.stored k (.int .i64 y); rw [flat_set, hw3] at hst; have hb3 := HB2.out.grown hst.2 (by omega) (fun r e => by cases e; exact hg1); have cx3 := CX.out w3 hb3; have f3 := hst.1.frozenAt (k + 1); have cz3 : ∃ z, w3.cell? ⟨g, k + 1, none⟩ = some z := (by rw [hst.1.cellAt (k + 1) (by omega)]; exact ⟨_, List.getElem?_eq_getElem (by rw [flat_len encI_len, List.length_set, hlen.out]; omega)⟩); obtain ⟨z3, cz3⟩ := cz3; obtain ⟨w4, hw4⟩ : ∃ w4, w3.setCell ⟨g, k + 1, none⟩ (.int .i64 x) = w4 := ⟨_, rfl⟩; have hst2 := hst.1.stored (k + 1) (.int .i64 x); rw [flat_set, hw4] at hst2; have hb4 := hb3.grown hst2.2 (by have := hst.2.size; omega) (fun r e => by cases e; exact hg1); have HB4 := Lib.hid hb4; have HO4 := Lib.hid hst2.1; clear hown hbel hst hst2 hb3 hb4)
        have hrd4 : RdI w4 (some ⟨g, 0, none⟩) len ((text.set k y).set (k + 1) x) := by
          obtain ⟨A4, c4, e4, h⟩ := own_rd encI_len (by omega) HO4.out (by omega)
          cases e4; exact h
        have HD4 := Lib.hid hrd4
        have cx4 := CX.out w4 HB4.out
        have cy4 := CY.out w4 HB4.out
        have HB4d := Lib.hid (show Below w1.heap.size w1 w4.drew from HB4.out.drew)
        have HD4d := Lib.hid (show RdI w4.drew (some ⟨g, 0, none⟩) len ((text.set k y).set (k + 1) x) from HD4.out.below (Below.refl _ _).drew)
        have K4 : Hid (Below w1.heap.size w1 w4.drew ∧ RdI w4.drew (some ⟨g, 0, none⟩) len ((text.set k y).set (k + 1) x)) := ⟨HB4d.out, HD4d.out⟩
        have flagA := trivial; have flagB := trivial
        clear hrd4 cy2 f2 cz2 f3 cz3 cx3
        go_cut [8, 9] from 11 to 93 (fun s8 s9 wc => s8 = .int .i64 (cls l x) ∧ s9 = .int .i64 (cls l y) ∧ Hid (Below w1.heap.size w1 wc ∧ RdI wc (some ⟨g, 0, none⟩) len ((text.set k y).set (k + 1) x)))
        case first =>
          go_region_with
            (first
            | (clear flagA; refine (class_any _ _ _ x l w4.drew (HR.out.below HB4d.out) (HG.out.below HB4d.out)).mono ?_; rintro e w5 ⟨rfl, hb1⟩; have HB5 := Lib.hid (bthen HB4d.out hb1); have cx5 := CX.out w5 HB5.out; have cy5 := CY.out w5 HB5.out; have K5 : Hid (Below w1.heap.size w1 w5 ∧ RdI w5 (some ⟨g, 0, none⟩) len ((text.set k y).set (k + 1) x)) := ⟨HB5.out, HD4d.out.below hb1⟩; clear hb1)
            | (clear flagB; refine (class_any _ _ _ y l _ (HR.out.below K5.out.1) (HG.out.below K5.out.1)).mono ?_; rintro e w6 ⟨rfl, hb2⟩; have HB6 := Lib.hid (bthen K5.out.1 hb2); have cx6 := CX.out w6 HB6.out; have cy6 := CY.out w6 HB6.out; have K6 : Hid (Below w1.heap.size w1 w6 ∧ RdI w6 (some ⟨g, 0, none⟩) len ((text.set k y).set (k + 1) x)) := ⟨HB6.out, K5.out.2.below hb2⟩; clear hb2))
          all_goals go_wp2_with fail
          all_goals go_meet
          all_goals exact ⟨rfl, rfl, K6⟩
        obtain ⟨rfl, rfl, K6⟩ := hcut
        obtain ⟨w6, rfl⟩ : ∃ w6 : World, w6 = wc := ⟨_, rfl⟩
        have HB6 := Lib.hid K6.out.1
        have HD6 := Lib.hid K6.out.2
        have cx6 := CX.out w6 HB6.out
        have cy6 := CY.out w6 HB6.out
        clear flagA flagB K6 K4 HB4d HD4d cx4 cy4
        go_wp2_with fail
        go_cut [10] from 11 to 93 (fun s10 wc => ∃ fr : Bool, s10 = .bool fr ∧ Hid (fr = true ↔ free2 (cls l) x y) ∧ Hid (Below w1.heap.size w1 wc ∧ RdI wc (some ⟨g, 0, none⟩) len ((text.set k y).set (k + 1) x)))
        case first =>
          by_cases h3 : cls l x = 0
          · have e1 : (cls l x != 0) = false := by simp [h3]
            have H3 := Lib.hid h3
            clear h3
            by_cases hxy : x = y
            · have e4 := beq_iff_eq.2 hxy
              have HF : Hid (free2 (cls l) x y) := .inr hxy
              clear hxy
              go_quiet (fail)
              go_wp2_with fail
              go_meet
              exact ⟨true, rfl, ⟨fun _ => HF.out, fun _ => rfl⟩, bdrewN HB6.out _, HD6.out.below (bdrewN (Below.refl _ _) _)⟩
            · have e4 := beq_eq_false_iff_ne.2 hxy
              have HF : Hid (¬ free2 (cls l) x y) := fun h => h.elim (fun k => k.1 H3.out) hxy
              clear hxy
              go_quiet (fail)
              go_wp2_with fail
              go_meet
              exact ⟨false, rfl, ⟨nofun, fun h => absurd h HF.out⟩, bdrewN HB6.out _, HD6.out.below (bdrewN (Below.refl _ _) _)⟩
          · have e1 : (cls l x != 0) = true := bne_iff_ne.2 h3
            have H3 := Lib.hid h3
            clear h3
            by_cases h4 : cls l y = 0
            · have e2 : (cls l y != 0) = false := by simp [h4]
              have H4 := Lib.hid h4
              clear h4
              by_cases hxy : x = y
              · have e4 := beq_iff_eq.2 hxy
                have HF : Hid (free2 (cls l) x y) := .inr hxy
                clear hxy
                go_quiet (fail)
                go_wp2_with fail
                go_meet
                exact ⟨true, rfl, ⟨fun _ => HF.out, fun _ => rfl⟩, bdrewN HB6.out _, HD6.out.below (bdrewN (Below.refl _ _) _)⟩
              · have e4 := beq_eq_false_iff_ne.2 hxy
                have HF : Hid (¬ free2 (cls l) x y) := fun h => h.elim (fun k => k.2.1 H4.out) hxy
                clear hxy
                go_quiet (fail)
                go_wp2_with fail
                go_meet
                exact ⟨false, rfl, ⟨nofun, fun h => absurd h HF.out⟩, bdrewN HB6.out _, HD6.out.below (bdrewN (Below.refl _ _) _)⟩
            · have e2 : (cls l y != 0) = true := bne_iff_ne.2 h4
              have H4 := Lib.hid h4
              clear h4
              by_cases h5 : cls l x = cls l y
              · have e3 : (cls l x != cls l y) = false := by simp [h5]
                have H5 := Lib.hid h5
                clear h5
                by_cases hxy : x = y
                · have e4 := beq_iff_eq.2 hxy
                  have HF : Hid (free2 (cls l) x y) := .inr hxy
                  clear hxy
                  go_quiet (fail)
                  go_wp2_with fail
                  go_meet
                  exact ⟨true, rfl, ⟨fun _ => HF.out, fun _ => rfl⟩, bdrewN HB6.out _, HD6.out.below (bdrewN (Below.refl _ _) _)⟩
                · have e4 := beq_eq_false_iff_ne.2 hxy
                  have HF : Hid (¬ free2 (cls l) x y) := fun h => h.elim (fun k => k.2.2 H5.out) hxy
                  clear hxy
                  go_quiet (fail)
                  go_wp2_with fail
                  go_meet
                  exact ⟨false, rfl, ⟨nofun, fun h => absurd h HF.out⟩, bdrewN HB6.out _, HD6.out.below (bdrewN (Below.refl _ _) _)⟩
              · have e3 : (cls l x != cls l y) = true := bne_iff_ne.2 h5
                have HF : Hid (free2 (cls l) x y) := .inl ⟨H3.out, H4.out, h5⟩
                clear h5
                go_quiet (fail)
                go_wp2_with fail
                go_meet
                exact ⟨true, rfl, ⟨fun _ => HF.out, fun _ => rfl⟩, bdrewN HB6.out _, HD6.out.below (bdrewN (Below.refl _ _) _)⟩
        obtain ⟨fr, rfl, HFR, K7⟩ := hcut
        have efr : (fr == fr) = true := by simp
        go_wp2_with fail
        refine (sort_any _ _ _ l _ _ _ text _ (HR.out.below K7.out.1) (HT.out.below K7.out.1) (HG.out.below K7.out.1)).mono ?_
        rintro e z1 ⟨A1, n1, c1, us, h1, h2, rfl, hb⟩
        have HZ1 := Lib.hid (bthen K7.out.1 hb)
        have HU := Lib.hid h1; have EU := Lib.hid h2
        have HOT := Lib.hid (K7.out.2.below hb)
        clear h1 h2 hb
        go_wp2_with fail
        refine (sort_any _ _ _ l _ _ _ ((text.set k y).set (k + 1) x) _ (HR.out.below HZ1.out) HOT.out (HG.out.below HZ1.out)).mono ?_
        rintro e z2 ⟨A2, n2, c2, vs, h1, h2, rfl, hb⟩
        have HZ2 := Lib.hid (bthen HZ1.out hb)
        have HV := Lib.hid h1
        have eD : decide (us = vs) = fr := by
          rw [Bool.eq_iff_iff, decide_eq_true_iff]
          exact (exch_eq HX.out HY.out EU.out h2).trans HFR.out.symm
        have HU2 := Lib.hid (HU.out.below hb)
        clear h1 h2 hb
        go_wp2_with fail
        refine (refEqual_any _ _ _ us _ _ _ vs _ HU2.out HV.out).mono ?_
        rintro e z3 ⟨rfl, hb⟩
        rw [eD]
        have HZ3 := Lib.hid (bthen HZ2.out hb)
        clear hb eD
        go_wp2_with fail
        refine (alive_any _ (HG.out.below HZ3.out)).mono ?_
        rintro e y9 ⟨rfl, hb⟩
        have HY9 := Lib.hid (bthen HZ3.out hb)
        clear hb
        go_wp2_with fail
        go_ret
        exact ⟨rfl, HY9.out⟩
  · have hd := decide_eq_false hs
    go_enter Tryd.func5, Tryd.ntmps5
    go_wp2_with fail
    refine (few_any _ _ _ _ _ _ _).mono ?_
    rintro e w1 ⟨rfl, rfl⟩
    rw [hd]
    have HB0 := Lib.hid (Below.refl w1.heap.size w1)
    go_wp2_with fail
    refine (alive_any _ (HG.out.below HB0.out)).mono ?_
    rintro e y9 ⟨rfl, hb⟩
    have HY9 := Lib.hid (bthen HB0.out hb)
    clear hb
    go_wp2_with fail
    go_ret
    exact ⟨rfl, HY9.out⟩

end Go.Proofs.YtamekpldmplenaaDoor
