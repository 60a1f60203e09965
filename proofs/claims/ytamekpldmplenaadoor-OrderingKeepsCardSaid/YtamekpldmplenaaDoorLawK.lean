/- OrderingKeeps, walked. -/
import Derived.Test.YtamekpldmplenaaDoorAlive
import Derived.Test.YtamekpldmplenaaDoorKeepP
import Derived.Deep.RegionWith
import Derived.Deep.CutRange
namespace Go.Proofs.YtamekpldmplenaaDoor
open Go.RowKit Go.Shelf

set_option maxRecDepth 100000 in
set_option maxHeartbeats 8000000 in
theorem keeps_any (A : Option Addr) (n c : Nat) (l : List Sp) (A' : Option Addr) (len cap : Nat) (text : List Int) (w : World) (hR : RdSp w A n l) (hT : RdI w A' len text) (hG : Glob w) :
    Calls Tryd.prog 6 #[.slice A n c, .slice A' len cap] w fun e w' => e = .returned (.bool true) ∧ Below w.heap.size w w' := by
  have HR := Lib.hid hR; have HG := Lib.hid hG; have HT := Lib.hid hT
  have hlen := Lib.hid hT.len
  clear hR hG hT
  by_cases hs : n ≤ 16 ∧ len ≤ 40
  · have hd := decide_eq_true hs
    have hl40 : len ≤ 40 := hs.2
    go_enter Tryd.func6, Tryd.ntmps6
    go_wp2_with fail
    refine (few_any _ _ _ _ _ _ _).mono ?_
    rintro e w1 ⟨rfl, rfl⟩
    rw [hd]
    have HB0 := Lib.hid (Below.refl w1.heap.size w1)
    go_wp2_with fail
    refine (sort_any _ _ _ l _ _ _ text _ HR.out HT.out HG.out).mono ?_
    rintro e w2 ⟨A1, n1, c1, ys, h1, h2, rfl, hb⟩
    have hn1 : n1 = len := by rw [← h1.len, h2.1.length, hlen.out]
    subst hn1
    have HB2 := Lib.hid hb
    have HS := Lib.hid h1; have EY := Lib.hid h2
    clear h1 h2 hb hs
    go_wp2_with fail
    go_loopw [6] (fun r wr => ∃ k : Nat, k ≤ n1 ∧ r = .int .i64 (k : Int) ∧ Hid (Below w2.heap.size w2 wr))
      (fun r _ => n1 - (intOf r).toNat)
    case atStart => exact ⟨0, by omega, by go_num, Below.refl _ _⟩
    case round =>
      obtain ⟨k, hk, rfl, HBr⟩ := hrel
      obtain ⟨len, rfl⟩ : ∃ len : Nat, len = n1 := ⟨_, rfl⟩
      obtain ⟨wo, rfl⟩ : ∃ wo : World, wo = wr := ⟨_, rfl⟩
      by_cases hlt : k < len
      · obtain ⟨b, off, rfl⟩ := HT.out.addr (by omega)
        obtain ⟨b', off', rfl⟩ := HS.out.addr (by omega)
        have hlt' : (k : Int) < (len : Int) := by omega
        have HBw := Lib.hid (bthen HB2.out HBr.out)
        have hx : ∃ x, Hid (text[k]? = some x) := ⟨text[k]'(by rw [hlen.out]; exact hlt), List.getElem?_eq_getElem _⟩
        obtain ⟨x, HX⟩ := hx
        have hy : ∃ y, Hid (ys[k]? = some y) := ⟨ys[k]'(by rw [HS.out.len]; exact hlt), List.getElem?_eq_getElem _⟩
        obtain ⟨y, HYe⟩ := hy
        have cxx : ∀ W, Below w1.heap.size w1 W → W.cell? ⟨b, off + k, none⟩ = some (.int .i64 x) := fun W hb => by
          obtain ⟨x2, h2, c2⟩ := RdI.elt (HT.out.below hb) hlt
          rw [HX.out] at h2; cases h2.out; exact c2
        have cyy : ∀ W, Below w2.heap.size w2 W → W.cell? ⟨b', off' + k, none⟩ = some (.int .i64 y) := fun W hb => by
          obtain ⟨x2, h2, c2⟩ := RdI.elt (HS.out.below hb) hlt
          rw [HYe.out] at h2; cases h2.out; exact c2
        have CX := Lib.hid cxx; have CY := Lib.hid cyy
        clear cxx cyy
        have pl := F0.places (f := cls l) text.length text ys (Nat.le_refl _) EY.out.1 k x y HX.out HYe.out
        have PL := Lib.hid pl
        have hcnt : (((ys.count x : Nat) : Int) != ((text.count x : Nat) : Int)) = false := by rw [(EY.out.1.perm).count_eq]; simp
        clear pl
        have cx4 := CX.out wo HBw.out
        have cy4 := CY.out wo HBr.out
        have HBd := Lib.hid (show Below w2.heap.size w2 wo.drew from HBr.out.drew)
        have HBwd := Lib.hid (show Below w1.heap.size w1 wo.drew from HBw.out.drew)
        have flagA := trivial; have flagB := trivial
        go_wp2_with fail
        go_cut [7, 8] from 22 to 91 (fun s7 s8 wc => s7 = .int .i64 (cls l x) ∧ s8 = .int .i64 (cls l y) ∧ Hid (Below w1.heap.size w1 wc) ∧ Hid (Below w2.heap.size w2 wc))
        case first =>
          go_region_with
            (first
            | (clear flagA; refine (class_any _ _ _ x l wo.drew (HR.out.below HBwd.out) (HG.out.below HBwd.out)).mono ?_; rintro e w5 ⟨rfl, hb1⟩; have HB5 := Lib.hid (HBd.out.trans (hb1.mono HBd.out.size)); have HB5w := Lib.hid (bthen HBwd.out hb1); have cy5 := CY.out w5 HB5.out; clear hb1)
            | (clear flagB; refine (class_any _ _ _ y l _ (HR.out.below HB5w.out) (HG.out.below HB5w.out)).mono ?_; rintro e w6 ⟨rfl, hb2⟩; have HB6s := Lib.hid (HB5.out.trans (hb2.mono HB5.out.size)); have HB6 := Lib.hid (bthen HB5w.out hb2); have cx6 := CX.out w6 HB6.out; have cy6 := CY.out w6 HB6s.out; have HS6 := Lib.hid (HS.out.below HB6s.out); clear hb2))
          all_goals go_wp2_with fail
          all_goals go_meet
          all_goals exact ⟨rfl, rfl, HB6, HB6s⟩
        obtain ⟨rfl, rfl, HB6, HB6s⟩ := hcut
        obtain ⟨w6, rfl⟩ : ∃ w6 : World, w6 = wc := ⟨_, rfl⟩
        have cx6 := CX.out w6 HB6.out
        have cy6 := CY.out w6 HB6s.out
        have HS6 := Lib.hid (HS.out.below HB6s.out)
        by_cases hz : cls l x = 0
        · have hyx := PL.out.2 hz
          subst hyx
          have e1 : (cls l y == 0) = true := beq_iff_eq.2 hz
          have e5 : (y != y) = false := by simp
          have gb : (cls l y != 0) = false := by simp [hz]
          clear hz
          go_wp2_with fail
          go_quiet ((go_at_call 23; first | exact Calls.quiet_of_same (count_any _ _ _ y ys _ (HS6.out.below (bdrewN (Below.refl _ _) _))) | exact Calls.quiet_of_same (count_any _ _ _ y text _ (HT.out.below (bdrewN HB6.out _)))))
          by_cases hk0 : (0 : Int) < (k : Int)
          · go_wp2_with fail
            go_roundw
            case rel => exact ⟨k + 1, by omega, by go_num, bdrewN HB6s.out _⟩
            case measure => simp [intOf]; omega
          · go_wp2_with fail
            go_roundw
            case rel => exact ⟨k + 1, by omega, by go_num, bdrewN HB6s.out _⟩
            case measure => simp [intOf]; omega
        · have hyz : ¬ cls l y = 0 := fun e => hz (PL.out.1.2 e)
          have HBn := Lib.hid hyz
          have e1 : (cls l x == 0) = false := beq_eq_false_iff_ne.2 hz
          have e2 : (cls l y == 0) = false := beq_eq_false_iff_ne.2 hyz
          have gb : (cls l y != 0) = true := bne_iff_ne.2 hyz
          clear hz hyz
          go_wp2_with fail
          go_quiet ((go_at_call 23; first | exact Calls.quiet_of_same (count_any _ _ _ x ys _ (HS6.out.below (bdrewN (Below.refl _ _) _))) | exact Calls.quiet_of_same (count_any _ _ _ x text _ (HT.out.below (bdrewN HB6.out _)))))
          by_cases hk0 : k = 0
          · have gk : ¬ (0 : Int) < (k : Int) := by omega
            go_wp2_with fail
            go_roundw
            case rel => exact ⟨k + 1, by omega, by go_num, bdrewN HB6s.out _⟩
            case measure => simp [intOf]; omega
          · obtain ⟨j, rfl⟩ : ∃ j, k = j + 1 := ⟨k - 1, by omega⟩
            obtain ⟨z, hz, cz⟩ := RdI.elt HS6.out (show j < len by omega)
            have hzl : cls l z ≤ cls l y := EY.out.2.at hz.out HYe.out HBn.out
            have HZL := Lib.hid hzl
            have gz : ¬ cls l y < cls l z := by omega
            have gj : (0 : Int) < (j : Int) + 1 := by omega
            have gj2 : (j : Int) + 1 - 1 = (j : Int) := by omega
            have gj3 : (j : Int) < (len : Int) := by omega
            clear hzl hz
            go_wp2_with fail
            refine (class_any _ _ _ z l _ (HR.out.below (bdrewN HB6.out _)) (HG.out.below (bdrewN HB6.out _))).mono ?_
            rintro e w7 ⟨rfl, hb⟩
            have HB7 := Lib.hid ((bdrewN HB6s.out _).trans (hb.mono (bdrewN HB6s.out _).size))
            clear hb
            go_wp2_with fail
            go_roundw
            case rel => exact ⟨j + 1 + 1, by omega, by go_num, HB7.out⟩
            case measure => simp [intOf]; omega
      · have e : k = len := by omega
        subst e
        have hlt' : ¬ (k : Int) < (k : Int) := by omega
        have HB3 := Lib.hid (bthen HB2.out HBr.out)
        go_wp2_with fail
        refine (alive_any _ (HG.out.below HB3.out)).mono ?_
        rintro e y9 ⟨rfl, hb⟩
        have HY9 := Lib.hid (bthen HB3.out hb)
        clear hb
        go_wp2_with fail
        go_ret
        exact ⟨rfl, HY9.out⟩

  · have hd := decide_eq_false hs
    go_enter Tryd.func6, Tryd.ntmps6
    go_wp2_with fail
    refine (few_any _ _ _ _ _ _ _).mono ?_
    rintro e w1 ⟨rfl, rfl⟩
    rw [hd]
    have HB0 := Lib.hid (Below.refl w1.heap.size w1)
    go_wp2_with fail
    refine (alive_any _ (HG.out.below HB0.out)).mono ?_
    rintro e y9 ⟨rfl, hb⟩
    have HY9 := Lib.hid (bthen HB0.out hb)
    clear hb
    go_wp2_with fail
    go_ret
    exact ⟨rfl, HY9.out⟩

end Go.Proofs.YtamekpldmplenaaDoor
