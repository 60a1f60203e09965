/- OrderingStable, walked. -/
import Derived.Test.YtamekpldmplenaaDoorAlive
import Derived.Test.YtamekpldmplenaaDoorStabP
import Derived.Test.YtamekpldmplenaaDoorLawO
import Derived.Deep.RegionWith
import Derived.Deep.CutRange
namespace Go.Proofs.YtamekpldmplenaaDoor
open Go.RowKit Go.Shelf

theorem RdI.sub {w : World} {b o n : Nat} {xs : List Int} (h : RdI w (some ⟨b, o, none⟩) n xs) (s m : Nat) (hs : s + m ≤ n) : RdI w (some ⟨b, o + s, none⟩) m ((xs.drop s).take m) := by
  have hl := h.len
  refine ⟨by simp; omega, by have := h.le; omega, fun hp => ⟨b, o + s, rfl, fun i hi j u hu => ?_⟩⟩
  have him : i < m := by simp at hi; omega
  obtain ⟨x, hx, cx⟩ := RdI.elt h (show s + i < n by omega)
  have e : ((xs.drop s).take m)[i] = x := by
    have h1 := hx.out
    rw [List.getElem?_eq_getElem (by omega)] at h1
    simpa using h1
  rw [e] at hu
  have hj : j = 0 := by have := (List.getElem?_eq_some_iff.1 hu).1; simp [encI] at this; exact this
  subst hj
  have hu2 : u = .int .i64 x := by simp [encI] at hu; exact hu.symm
  subst hu2
  rw [Nat.mul_one, Nat.add_zero, Nat.add_assoc]
  exact cx

set_option maxRecDepth 100000 in
set_option maxHeartbeats 8000000 in
theorem lawStable_any (A : Option Addr) (n c : Nat) (l : List Sp) (A' : Option Addr) (len cap : Nat) (text : List Int) (q : Int) (w : World) (hR : RdSp w A n l) (hT : RdI w A' len text) (hG : Glob w) (hcap : len ≤ cap) (hq : 0 ≤ q ∧ q < 256) :
    Calls Tryd.prog 7 #[.slice A n c, .slice A' len cap, .int .u8 q] w fun e w' => e = .returned (.bool true) ∧ Below w.heap.size w w' := by
  have HR := Lib.hid hR; have HG := Lib.hid hG; have HT := Lib.hid hT
  have hlen := Lib.hid hT.len
  have gq : IntKind.i64.wrap q = q := IntWalk.i64_in _ (by omega)
  clear hR hG hT
  by_cases hs : n ≤ 16 ∧ len ≤ 40
  · have hd := decide_eq_true hs
    have hl40 : len ≤ 40 := hs.2
    go_enter Tryd.func7, Tryd.ntmps7
    go_wp2_with fail
    refine (few_any _ _ _ _ _ _ _).mono ?_
    rintro e w1 ⟨rfl, rfl⟩
    rw [hd]
    go_wp2_with fail
    refine (sort_cap _ _ _ l _ _ _ text _ HR.out HT.out HG.out).mono ?_
    rintro e w2 ⟨A1, n1, c1, ys, h1, hc1, h2, rfl, hb⟩
    have hn1 : n1 = len := by rw [← h1.len, h2.1.length, hlen.out]
    subst hn1
    have HB2 := Lib.hid hb
    have HS2 := Lib.hid h1; have EY := Lib.hid h2
    clear h1 h2 hb hs
    go_wp2_with fail
    refine (runs_all _ _ _ l _ _ _ text _ (HR.out.below HB2.out) (HT.out.below HB2.out) (by omega) (HG.out.below HB2.out)).mono ?_
    rintro e w3 ⟨Ar, nr, cr, rgs, h1, h2, rfl, hb⟩
    have HB3 := Lib.hid (bthen HB2.out hb)
    have HS := Lib.hid (HS2.out.below hb)
    have HQ := Lib.hid h1; have EQ := Lib.hid h2
    clear h1 h2 hb
    have hrl := HQ.out.bd
    go_wp2_with fail
    go_loopw [9] (fun r wr => ∃ k : Nat, k ≤ nr ∧ r = .int .i64 (k : Int) ∧ Hid (Below w3.heap.size w3 wr))
      (fun r _ => nr - (intOf r).toNat)
    case atStart => exact ⟨0, by omega, by go_num, Below.refl _ _⟩
    case round =>
      obtain ⟨k, hk, rfl, HBr⟩ := hrel
      obtain ⟨len, rfl⟩ : ∃ len : Nat, len = n1 := ⟨_, rfl⟩
      obtain ⟨wo, rfl⟩ : ∃ wo : World, wo = wr := ⟨_, rfl⟩
      by_cases hlt : k < nr
      · obtain ⟨br, ofr, rfl⟩ := HQ.out.addr (by omega)
        have hlt' : (k : Int) < (nr : Int) := by omega
        obtain ⟨loz, hiz, hr, cl0, cl1⟩ := RdRg.elt (HQ.out.below HBr.out) hlt
        have HRK := Lib.hid (show rgs[k]? = some ⟨loz, hiz⟩ from hr.out)
        obtain ⟨lo, hi, P, N, S, er, har⟩ := around (f := cls l) (text := text) (r := ⟨loz, hiz⟩) (by have := List.mem_of_getElem? HRK.out; rwa [EQ.out] at this)
        cases er
        have HAr := Lib.hid har
        have hpart := Around.part har EY.out
        have EP := Lib.hid hpart
        have hlo : lo < hi := by have h1 := har.lo; have h2 := har.hi; have := List.length_pos_iff.2 har.ne; omega
        have hhi : hi ≤ len := by have h2 := har.hi; have h3 := congrArg List.length har.eq; have := hlen.out; simp at h3; omega
        clear hr har hpart
        obtain ⟨b, off, rfl⟩ := HT.out.addr (by omega)
        obtain ⟨b', off', rfl⟩ := HS.out.addr (by omega)
        have HBw := Lib.hid (bthen HB3.out HBr.out)
        have htt : ∀ W, Below w1.heap.size w1 W → RdI W (some ⟨b, off + lo, none⟩) (hi - lo) N := fun W hb => by
          have := RdI.sub (HT.out.below hb) lo (hi - lo) (by omega)
          rwa [EP.out.1] at this
        have hss : ∀ W, Below w3.heap.size w3 W → RdI W (some ⟨b', off' + lo, none⟩) (hi - lo) ((ys.drop lo).take (hi - lo)) := fun W hb => RdI.sub (HS.out.below hb) lo (hi - lo) (by omega)
        have HTT := Lib.hid htt; have HSS := Lib.hid hss
        clear htt hss
        have g1 : ¬ (lo : Int) < 0 := by omega
        have g2 : ¬ (hi : Int) ≤ (lo : Int) := by omega
        have g3 : ¬ (len : Int) < (hi : Int) := by omega
        have g4 : ((len : Int) != (len : Int)) = false := by simp
        have g5 : lo ≤ hi := by omega
        have g6 : hi ≤ cap := by omega
        have g7 : ¬ cap = lo := by omega
        have g8 : hi ≤ c1 := by omega
        have g9 : ¬ c1 = lo := by omega
        go_wp2_with fail
        go_quiet (fail)
        obtain ⟨wp, hwp⟩ : ∃ wp : World, wp = wo.drewN nq := ⟨_, rfl⟩
        have hbp : Below w3.heap.size w3 wp := by rw [hwp]; exact bdrewN HBr.out _
        rw [← hwp]
        have HBp := Lib.hid hbp
        clear hbp hwp cl0 cl1
        go_upto_region 9 with (fail)
        go_cut [72] from 23 to 102 (fun s wc => ∃ bb : Bool, s = .bool bb ∧ Hid (bb = false) ∧ Hid (Below w3.heap.size w3 wc))
        case first =>
          by_cases hk0 : k = 0
          · have gk : decide ((0 : Int) < (k : Int)) = false := decide_eq_false (by omega)
            have gk' : decide (0 < k) = false := decide_eq_false (by omega)
            clear hk0
            go_wp2_with fail
            go_meet
            exact ⟨_, rfl, by show _ = _; simp; omega, HBp⟩
          · obtain ⟨j, rfl⟩ : ∃ j, k = j + 1 := ⟨k - 1, by omega⟩
            obtain ⟨ploz, phiz, hr, cp0, cp1⟩ := RdRg.elt (HQ.out.below HBp.out) (show j < nr by omega)
            have gap : phiz < (lo : Int) := by
              have e1 := HRK.out; have e2 := hr.out
              rw [EQ.out] at e1 e2
              exact runs_apart text.length text 0 j _ _ (Nat.le_refl _) e2 e1
            have gk : (0 : Int) < (j : Int) + 1 := by omega
            have gk2 : (j : Int) + 1 - 1 = (j : Int) := by omega
            have gk3 : (j : Int) < (nr : Int) := by omega
            have gk4 : ¬ (lo : Int) ≤ phiz := by omega
            clear hr gap
            go_wp2_with fail
            go_meet
            exact ⟨_, rfl, by show _ = _; simp; omega, HBp⟩
        obtain ⟨bb, rfl, hbb, HBc⟩ := hcut
        have hbb := hbb.out
        subst hbb
        obtain ⟨wd, rfl⟩ : ∃ wd : World, wd = wc := ⟨_, rfl⟩
        have HDw := Lib.hid (show Below w1.heap.size w1 wd.drew from (bthen HB3.out HBc.out).drew)
        have HDs := Lib.hid (show Below w3.heap.size w3 wd.drew from HBc.out.drew)
        have flagA := trivial; have flagB := trivial
        go_upto_region 11 with (fail)
        go_cut [84] from 23 to 102 (fun s wc => s = .bool false ∧ Hid (Below w3.heap.size w3 wc))
        case first =>
          go_region_with
            (first
            | (clear flagA; go_at_call 22; refine (sort_any _ _ _ l (some ⟨b, off + lo, none⟩) (hi - lo) _ N wd.drew (HR.out.below HDw.out) (HTT.out _ HDw.out) (HG.out.below HDw.out)).mono ?_; rintro e w5 ⟨A5, n5, c5, zs, h1, h2, rfl, hb⟩; have HB5 := Lib.hid (bthen HDs.out hb); have H5 := Lib.hid h1; have eD : decide (zs = (ys.drop lo).take (hi - lo)) = true := decide_eq_true (srtd_eq h2 EP.out.2); clear h1 h2 hb)
            | (clear flagB; go_at_call 21; refine (refEqual_any _ _ _ zs (some ⟨b', off' + lo, none⟩) (hi - lo) _ ((ys.drop lo).take (hi - lo)) _ H5.out (HSS.out _ HB5.out)).mono ?_; rintro e w6 ⟨rfl, hb⟩; rw [eD]; have HB6 := Lib.hid (bthen HB5.out hb); clear hb eD))
          all_goals go_wp2_with fail
          all_goals go_meet
          all_goals exact ⟨rfl, HB6⟩
        obtain ⟨rfl, HBe⟩ := hcut
        obtain ⟨wf, rfl⟩ : ∃ wf : World, wf = wc := ⟨_, rfl⟩
        have HFw := Lib.hid (show Below w1.heap.size w1 wf.drew from (bthen HB3.out HBe.out).drew)
        have HFs := Lib.hid (show Below w3.heap.size w3 wf.drew from HBe.out.drew)
        clear flagA flagB
        have flagA := trivial; have flagB := trivial; have flagC := trivial
        have eC : Hid (((ys.drop lo).take (hi - lo)).filter (fun x => cls l x == q) = N.filter (fun x => cls l x == q)) := same_class EP.out.2.1 HAr.out.non q
        have gh : hi - lo ≤ 1000000000 := by omega
        go_upto_region 13 with (fail)
        go_cut [102] from 23 to 102 (fun s wc => s = .bool false ∧ Hid (Below w3.heap.size w3 wc))
        case first =>
          go_region_with
            (first
            | (clear flagA; go_at_call 24; refine (of_any _ _ _ l (some ⟨b, off + lo, none⟩) (hi - lo) _ N q wf.drew (HR.out.below HFw.out) (HTT.out _ HFw.out) (HG.out.below HFw.out) gh).mono ?_; rintro e w7 ⟨A7, n7, c7, o1, h1, h2, rfl, hb⟩; have HB7 := Lib.hid (bthen HFs.out hb); have HB7w := Lib.hid (bthen HB3.out HB7.out); have H7 := Lib.hid h1; have E7 := Lib.hid h2; clear h1 h2 hb)
            | (clear flagB; go_at_call 24; refine (of_any _ _ _ l (some ⟨b', off' + lo, none⟩) (hi - lo) _ ((ys.drop lo).take (hi - lo)) q _ (HR.out.below HB7w.out) (HSS.out _ HB7.out) (HG.out.below HB7w.out) gh).mono ?_; rintro e w8 ⟨A8, n8, c8, o2, h1, h2, rfl, hb⟩; have HB8 := Lib.hid (bthen HB7.out hb); have H8 := Lib.hid h1; have eD : decide (o1 = o2) = true := decide_eq_true (E7.out.trans (eC.out.symm.trans h2.symm)); have H7 := Lib.hid (H7.out.below hb); clear h1 h2 hb)
            | (clear flagC; go_at_call 21; refine (refEqual_any _ _ _ o1 _ _ _ o2 _ H7.out H8.out).mono ?_; rintro e w9 ⟨rfl, hb⟩; rw [eD]; have HB9 := Lib.hid (bthen HB8.out hb); clear hb eD))
          all_goals go_wp2_with fail
          all_goals go_meet
          all_goals exact ⟨rfl, HB9⟩
        obtain ⟨rfl, HBz⟩ := hcut
        go_wp2_with fail
        go_roundw
        case rel => exact ⟨k + 1, by omega, by go_num, HBz⟩
        case measure => simp [intOf]; omega
      · have e : k = nr := by omega
        subst e
        have hlt' : ¬ (k : Int) < (k : Int) := by omega
        have HB4 := Lib.hid (bthen HB3.out HBr.out)
        go_wp2_with fail
        refine (alive_any _ (HG.out.below HB4.out)).mono ?_
        rintro e y9 ⟨rfl, hb⟩
        have HY9 := Lib.hid (bthen HB4.out hb)
        clear hb
        go_wp2_with fail
        go_ret
        exact ⟨rfl, HY9.out⟩
  · have hd := decide_eq_false hs
    go_enter Tryd.func7, Tryd.ntmps7
    go_wp2_with fail
    refine (few_any _ _ _ _ _ _ _).mono ?_
    rintro e w1 ⟨rfl, rfl⟩
    rw [hd]
    have HB0 := Lib.hid (Below.refl w1.heap.size w1)
    go_wp2_with fail
    refine (alive_any _ (HG.out.below HB0.out)).mono ?_
    rintro e y9 ⟨rfl, hb⟩
    have HY9 := Lib.hid (bthen HB0.out hb)
    clear hb
    go_wp2_with fail
    go_ret
    exact ⟨rfl, HY9.out⟩
end Go.Proofs.YtamekpldmplenaaDoor
