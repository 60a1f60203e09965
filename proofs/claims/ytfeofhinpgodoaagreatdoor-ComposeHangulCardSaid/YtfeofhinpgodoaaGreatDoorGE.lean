/- the package compose. -/
import Derived.Test.YtfeofhinpgodoaaGreatDoorGD
import Derived.Deep.RegionWith
import Derived.Deep.DeepCutAuto
import Derived.Deep.RegionHeld3
import Derived.Test.YtfeofhinpgodoaaGreatDoorGC
import Derived.Test.YtfeofhinpgodoaaGreatDoorGB
import Derived.OwnWalk
namespace Go.Proofs.YtfeofhinpgodoaaGreatDoor
open Go.RowKit Go.Shelf

def CompPost (kv : List ((Int × Int) × Value)) (w : World) (e : Ending) (w' : World) : Prop := ∃ bm, e = .returned (.map (some bm)) ∧ MapAt encP2 bm kv w' ∧ w.heap.size ≤ bm ∧ Below w.heap.size w w'

theorem lookP2 {b : Nat} {kv : List ((Int × Int) × Value)} {w : World} (h : MapAt encP2 b kv w) (a c : Int) :
    (Instr.lookup 60 (.map (some b)) (.agg #[.int .i64 a, .int .i64 c]) true).run Tryz.prog w = .ok (.tuple #[(look kv (a, c)).getD (.int .i64 0), .bool (look kv (a, c)).isSome]) w :=
  h.lookup keyP2 (fun a => ⟨a, rfl⟩) encP2_inj Tryz.underlying60 (z := .int .i64 0) (by kernel_rfl) (a, c) true

set_option maxRecDepth 100000 in
set_option maxHeartbeats 8000000 in
theorem comps_any (A1 A2 A3 : Option Addr) (n1 c1 n2 c2 n3 c3 : Nat) (sp : List Sp) (l : List Mp) (ex : List Rg) (w : World) (hS : RdSp w A1 n1 sp) (hM : RdMp w A2 n2 l) (hX : RdRg w A3 n3 ex) (hbig : n3 ≤ 1000000) (hG : Glob w) :
    Calls Tryz.prog 32 #[.agg #[.slice A1 n1 c1, .slice A2 n2 c2, .slice A3 n3 c3]] w (CompPost (compM sp ex l) w) := by
  have hn := hM.bd
  have HL := Lib.hid hM.len
  have HS := Lib.hid hS; have HM := Lib.hid hM; have HX := Lib.hid hX; have HG := Lib.hid hG
  clear hS hM hX hG
  have hmm := @run_makeMap Tryz.prog
  go_enter Tryz.func32, Tryz.ntmps32
  go_wp2_with fail
  go_loopw [15] (fun r wr => ∃ k : Nat, k ≤ n2 ∧ r = .int .i64 (k : Int) ∧ Hid (Below w.heap.size w wr) ∧ Hid (MapAt encP2 (w.heap.size + 1) (compM sp ex (l.take k)) wr) ∧ Hid (wr.cell? ⟨w.heap.size, 0, none⟩ = some (.slice A1 n1 c1)) ∧ Hid (wr.cell? ⟨w.heap.size, 2, none⟩ = some (.slice A3 n3 c3))) (fun r _ => n2 - (intOf r).toNat)
  case atStart =>
    refine ⟨0, by omega, by go_num, (by repeat (first | exact Below.refl _ _ | refine Below.alloc ?_ (by first | exact Nat.le_refl _ | (simp; done) | (simp; omega)) _ | refine Below.drew ?_)), ?_, Lib.hid (by go_simp), Lib.hid (by go_simp)⟩
    have h := MapAt.made encP2 (w.alloc (.cells #[.slice A1 n1 c1, .slice A2 n2 c2, .slice A3 n3 c3] 28))
    rw [World.size_alloc] at h
    exact h
  case round =>
    obtain ⟨k, hk, rfl, HB, HMp, HC0, HC2⟩ := hrel
    obtain ⟨wo, rfl⟩ : ∃ wo : World, wo = wr := ⟨_, rfl⟩
    by_cases hlt : k < n2
    · obtain ⟨b, o, rfl⟩ := HM.out.addr (by omega)
      obtain ⟨m, A', n', c', hm, x0, x1, x2, hT, hcap⟩ := RdMp.elt (HM.out.below HB.out) hlt
      have hT' := hT.out
      have HRK := Lib.hid (show l[k]? = some m from hm.out)
      have HST := Lib.hid (compM_step (sp := sp) (ex := ex) hm.out)
      obtain ⟨frm, tag, tos⟩ := m
      have hlt' : (k : Int) < (n2 : Int) := by omega
      have hto := Lib.hid (show tos.length = n' from hT'.len)
      go_upto_region 5 with fail
      obtain ⟨w5, hw5⟩ : ∃ w5, w5 = wo.alloc (.cells #[.int .i64 frm, .slice A' n' c', .string tag] 56) := ⟨_, rfl⟩
      rw [← hw5]
      have hb5 : Below wo.heap.size wo w5 := by rw [hw5]; exact (Below.refl _ _).alloc (Nat.le_refl _) _
      have f0 : w5.cell? ⟨wo.heap.size, 0, none⟩ = some (.int .i64 frm) := by rw [hw5]; go_simp
      have f1 : w5.cell? ⟨wo.heap.size, 1, none⟩ = some (.slice A' n' c') := by rw [hw5]; go_simp
      have f2 : w5.cell? ⟨wo.heap.size, 2, none⟩ = some (.string tag) := by rw [hw5]; go_simp
      have g0 : w5.cell? ⟨w.heap.size, 0, none⟩ = some (.slice A1 n1 c1) := bcel hb5 HC0.out
      have g2 : w5.cell? ⟨w.heap.size, 2, none⟩ = some (.slice A3 n3 c3) := bcel hb5 HC2.out
      have HB5 := Lib.hid (bthen HB.out hb5)
      have HM5 := Lib.hid (HMp.out.below hb5)
      have HT5 := Lib.hid (hT'.below hb5)
      have hsz5 : wo.heap.size < w5.heap.size := by rw [hw5]; simp
      have hszo := HB.out.size
      clear hw5 hb5 x0 x1 x2 hm hT hT' HB HMp HC0 HC2
      have hemp : tag.toList.isEmpty = decide (tag.size = 0) := bytes_isEmpty tag
      have HSd := Lib.hid (HS.out.below (HB5.out.drew)); have HGd := Lib.hid (HG.out.below (HB5.out.drew)); have HXd := Lib.hid (HX.out.below (HB5.out.drew))
      go_cut [52] from 19 to 53 (fun s52 wc => s52 = .bool (!comp1 sp ex ⟨frm, tag, tos⟩) ∧ Hid (Below w5.heap.size w5 wc))
      case first =>
        by_cases h0 : tag.size = 0
        · have he : tag.toList.isEmpty = true := hemp.trans (decide_eq_true h0)
          by_cases h2 : n' = 2
          · subst h2
            obtain ⟨ta, tb, rfl⟩ : ∃ ta tb, tos = [ta, tb] := by
              have := hto.out
              match tos, this with
              | [x, y], _ => exact ⟨x, y, rfl⟩
            obtain ⟨bb, oo, rfl⟩ := HT5.out.addr (by omega)
            obtain ⟨b', o', e', hc⟩ := HT5.out.cells (by omega)
            cases e'
            have y0 : w5.cell? ⟨bb, oo, none⟩ = some (.int .i64 ta) := hc 0 (by simp) 0 _ rfl
            have KD : Hid (Below w5.heap.size w5 w5.drew) := (Below.refl _ _).drew
            clear hc hemp
            have HCF := Lib.hid (show comp1 sp ex ⟨frm, tag, [ta, tb]⟩ = (decide (cls sp frm = 0) && decide (cls sp ta = 0) && !hasB ex frm) by simp [comp1, h0, Bool.and_assoc])
            clear h0
            refine wp_region_segs [14, 24, 32] (by kernel_rfl) (by kernel_rfl) (by kernel_rfl) ?_
            apply seg_cons
            intro K' K0 hK h0
            simp only [List.take_succ_cons, List.take_zero, List.drop_succ_cons, List.drop_zero]
            repeat still_step
            refine wpStill_nil (h0 _ (wpSeg_at rfl (fun K1 hK1 => ?_)))
            replace hK := fun a w h => hK1 a w (hK a w h)
            clear hK1 h0 K0
            go_simp
            refine (starter_any A1 n1 c1 frm sp _ HSd.out HGd.out).mono ?_
            rintro e w6 ⟨rfl, hb⟩
            refine hK _ _ ?_
            clear hK K' K1
            have Kw6 := Lib.hid (bthen KD.out hb)
            have q0 := bcel Kw6.out f0; have q1 := bcel Kw6.out f1; have q2 := bcel Kw6.out g0; have q3 := bcel Kw6.out g2; have q4 := bcel Kw6.out y0
            clear hb
            cases eA : (cls sp frm == 0)
            · have hA : cls sp frm ≠ 0 := beq_eq_false_iff_ne.1 eA
              clear eA
              apply seg_cons
              intro K' K0 hK h0
              simp only [List.take_succ_cons, List.take_zero, List.drop_succ_cons, List.drop_zero]
              repeat still_step
              refine wpStill_nil (h0 _ (wpSeg_at rfl (fun K1 hK1 => ?_)))
              replace hK := fun a w h => hK1 a w (hK a w h)
              clear hK1 h0 K0
              go_simp
              refine hK _ _ ?_
              clear hK K' K1
              apply seg_cons
              intro K' K0 hK h0
              simp only [List.take_succ_cons, List.take_zero, List.drop_succ_cons, List.drop_zero]
              repeat still_step
              refine wpStill_nil (h0 _ (wpSeg_at rfl (fun K1 hK1 => ?_)))
              replace hK := fun a w h => hK1 a w (hK a w h)
              clear hK1 h0 K0
              go_simp
              refine hK _ _ ?_
              clear hK K' K1
              apply seg_nil
              intro K0 hK
              simp only [List.take_succ_cons, List.take_zero, List.drop_succ_cons, List.drop_zero]
              repeat still_step
              refine wpStill_nil (hK _ ?_)
              clear hK K0
              go_wp2_with fail
              go_meet
              exact ⟨by rw [HCF.out]; simp [hA], Kw6.out⟩
            · have hA : cls sp frm = 0 := beq_iff_eq.1 eA
              clear eA
              apply seg_cons
              intro K' K0 hK h0
              simp only [List.take_succ_cons, List.take_zero, List.drop_succ_cons, List.drop_zero]
              repeat still_step
              refine wpStill_nil (h0 _ (wpSeg_at rfl (fun K1 hK1 => ?_)))
              replace hK := fun a w h => hK1 a w (hK a w h)
              clear hK1 h0 K0
              go_simp
              refine (starter_any A1 n1 c1 ta sp _ (HS.out.below (bthen HB5.out Kw6.out)) (HG.out.below (bthen HB5.out Kw6.out))).mono ?_
              rintro e w7 ⟨rfl, hb⟩
              refine hK _ _ ?_
              clear hK K' K1
              have Kw7 := Lib.hid (bthen Kw6.out hb)
              have q0 := bcel Kw7.out f0; have q1 := bcel Kw7.out f1; have q2 := bcel Kw7.out g0; have q3 := bcel Kw7.out g2; have q4 := bcel Kw7.out y0
              clear hb
              cases eB : (cls sp ta == 0)
              · have hB : cls sp ta ≠ 0 := beq_eq_false_iff_ne.1 eB
                clear eB
                apply seg_cons
                intro K' K0 hK h0
                simp only [List.take_succ_cons, List.take_zero, List.drop_succ_cons, List.drop_zero]
                repeat still_step
                refine wpStill_nil (h0 _ (wpSeg_at rfl (fun K1 hK1 => ?_)))
                replace hK := fun a w h => hK1 a w (hK a w h)
                clear hK1 h0 K0
                go_simp
                refine hK _ _ ?_
                clear hK K' K1
                apply seg_nil
                intro K0 hK
                simp only [List.take_succ_cons, List.take_zero, List.drop_succ_cons, List.drop_zero]
                repeat still_step
                refine wpStill_nil (hK _ ?_)
                clear hK K0
                go_wp2_with fail
                go_meet
                exact ⟨by rw [HCF.out]; simp [hB], Kw7.out⟩
              · have hB : cls sp ta = 0 := beq_iff_eq.1 eB
                clear eB
                apply seg_cons
                intro K' K0 hK h0
                simp only [List.take_succ_cons, List.take_zero, List.drop_succ_cons, List.drop_zero]
                repeat still_step
                refine wpStill_nil (h0 _ (wpSeg_at rfl (fun K1 hK1 => ?_)))
                replace hK := fun a w h => hK1 a w (hK a w h)
                clear hK1 h0 K0
                go_simp
                refine (has_any A3 n3 c3 frm ex _ (HX.out.below (bthen HB5.out Kw7.out)) hbig).mono ?_
                rintro e w8 ⟨rfl, hb⟩
                refine hK _ _ ?_
                clear hK K' K1
                have Kw8 := Lib.hid (bthen Kw7.out hb)
                have q0 := bcel Kw8.out f0; have q1 := bcel Kw8.out f1; have q2 := bcel Kw8.out g0; have q3 := bcel Kw8.out g2; have q4 := bcel Kw8.out y0
                clear hb
                apply seg_nil
                intro K0 hK
                simp only [List.take_succ_cons, List.take_zero, List.drop_succ_cons, List.drop_zero]
                repeat still_step
                refine wpStill_nil (hK _ ?_)
                clear hK K0
                go_wp2_with fail
                go_meet
                exact ⟨by rw [HCF.out]; simp [hA, hB], Kw8.out⟩
          · have h2' : ((n' : Int) != 2) = true := bne_iff_ne.2 (by omega)
            have hcf : comp1 sp ex ⟨frm, tag, tos⟩ = false := by
              have := hto.out
              unfold comp1
              match tos, this with
              | [], _ => simp
              | [_], _ => simp
              | [_, _], e => simp at e; omega
              | _ :: _ :: _ :: _, _ => simp
            have HCF := Lib.hid hcf
            clear hcf hemp h0
            go_quiet (fail)
            go_wp2_with fail
            go_meet
            exact ⟨by rw [HCF.out]; rfl, bdrewN (Below.refl _ _) _⟩
        · have he : tag.toList.isEmpty = false := hemp.trans (decide_eq_false h0)
          have hcf : comp1 sp ex ⟨frm, tag, tos⟩ = false := by unfold comp1; simp [h0]
          have HCF := Lib.hid hcf
          clear hcf hemp h0
          go_quiet (fail)
          go_wp2_with fail
          go_meet
          exact ⟨by rw [HCF.out]; rfl, bdrewN (Below.refl _ _) _⟩
      obtain ⟨hs52, HBc⟩ := hcut
      obtain ⟨w8, rfl⟩ : ∃ w8 : World, w8 = wc := ⟨_, rfl⟩
      have HB8 := Lib.hid (bthen HB5.out HBc.out)
      have HM8 := Lib.hid (HM5.out.below HBc.out)
      cases hcm : comp1 sp ex ⟨frm, tag, tos⟩
      · rw [hcm] at hs52
        replace hs52 : u52 = .bool true := hs52
        subst hs52
        have HST' := Lib.hid (HST.out.trans (cstep_no hcm))
        clear hcm
        go_wp2_with fail
        go_roundw
        case rel => exact ⟨k + 1, by omega, by go_num, HB8, Lib.hid (by rw [HST'.out]; exact HM8.out), Lib.hid (bcel HBc.out g0), Lib.hid (bcel HBc.out g2)⟩
        case measure => simp [intOf]; omega
      · rw [hcm] at hs52
        replace hs52 : u52 = .bool false := hs52
        subst hs52
        obtain ⟨ta, tb, rfl⟩ : ∃ ta tb, tos = [ta, tb] := by
          unfold comp1 at hcm
          match tos, hcm with
          | [x, y], _ => exact ⟨x, y, rfl⟩
          | [], h => simp at h
          | [_], h => simp at h
          | _ :: _ :: _ :: _, h => simp at h
        have hn' : n' = 2 := hto.out.symm
        subst hn'
        obtain ⟨bb, oo, rfl⟩ := HT5.out.addr (by omega)
        obtain ⟨b', o', e', hc⟩ := HT5.out.cells (by omega)
        cases e'
        have y0 : w8.cell? ⟨bb, oo, none⟩ = some (.int .i64 ta) := bcel HBc.out (hc 0 (by simp) 0 _ rfl)
        have y1 : w8.cell? ⟨bb, oo + 1, none⟩ = some (.int .i64 tb) := bcel HBc.out (hc 1 (by simp) 0 _ rfl)
        have f0' := bcel HBc.out f0
        have f1' := bcel HBc.out f1
        have G0 := Lib.hid (bcel HBc.out g0)
        have G2 := Lib.hid (bcel HBc.out g2)
        have HCM := Lib.hid hcm
        have hsz8 := HBc.out.size
        clear hc g0 g2 f0 f1 f2 hcm
        have p1 := World.new_ne w8 _ f0'; have p2 := World.new_ne w8 _ f1'; have p3 := World.new_ne w8 _ y0; have p4 := World.new_ne w8 _ y1
        go_upto_region 6 with fail
        go_region_held3 (fun w' => w'.cell? ⟨wo.heap.size, 1, none⟩ = some (.slice (some ⟨bb, oo, none⟩) 2 c') ∧ w'.cell? ⟨bb, oo, none⟩ = some (.int .i64 ta) ∧ w'.cell? ⟨bb, oo + 1, none⟩ = some (.int .i64 tb)) (go_keep) (fail)
        have cb9 : Below w8.heap.size w8 (w8.alloc (.cells #[.int .i64 ta, .int .i64 tb] 62)).drew := ((Below.refl _ _).alloc (Nat.le_refl _) _).drew
        obtain ⟨w9, hw9⟩ : ∃ w9, w9 = (w8.alloc (.cells #[.int .i64 ta, .int .i64 tb] 62)).drew := ⟨_, rfl⟩
        rw [← hw9] at cb9 ⊢
        have a0 : w9.cell? ⟨w8.heap.size, 0, none⟩ = some (.int .i64 ta) := by rw [hw9]; go_simp
        have a1 : w9.cell? ⟨w8.heap.size, 1, none⟩ = some (.int .i64 tb) := by rw [hw9]; go_simp
        have x0 := bcel cb9 f0'
        have Cb9 := Lib.hid cb9
        have hsz9 : w8.heap.size < w9.heap.size := by rw [hw9]; simp
        clear hw9 cb9 p1 p2 p3 p4 y0 y1 f0' f1'
        cases hH : hcomp ta tb with
        | some whole =>
          have HST' := Lib.hid (HST.out.trans (cstep_h rfl (by rw [hH]; simp)))
          go_wp2_with (go_at_call 31; refine (hcomp_any ta tb _).mono ?_; rintro e w10 ⟨rfl, hb⟩; rw [hH]; have Cb10 := Lib.hid (bthen Cb9.out hb); clear hb)
          go_roundw
          case rel => exact ⟨k + 1, by omega, by go_num, Lib.hid (bthen HB8.out Cb10.out), Lib.hid (by rw [HST'.out]; exact HM8.out.below Cb10.out), Lib.hid (bcel Cb10.out G0.out), Lib.hid (bcel Cb10.out G2.out)⟩
          case measure => simp [intOf]; omega
        | none =>
          have HCN := Lib.hid (show (hcomp ta tb) = none from hH)
          have ht2 := Tryz.underlying62
          cases hK : look (compM sp ex (l.take k)) (ta, tb) with
          | none =>
            have HLK := Lib.hid hK
            have HST' := Lib.hid (HST.out.trans (cstep_new rfl HCM.out hH hK))
            clear hK
            go_wp2_with (first | (go_at_call 31; refine (hcomp_any ta tb _).mono ?_; rintro e w10 ⟨rfl, hb⟩; rw [hH]; have Cb10 := Lib.hid (bthen Cb9.out hb); have b0 := bcel hb a0; have b1 := bcel hb a1; have b2 := bcel hb x0; have HM10 := Lib.hid (HM8.out.below Cb10.out); have HL10 : (Instr.lookup 60 (.map (some (w.heap.size + 1))) (.agg #[.int .i64 ta, .int .i64 tb]) true).run Tryz.prog w10 = .ok (.tuple #[.int .i64 0, .bool false]) w10 := (lookP2 HM10.out ta tb).trans (by rw [HLK.out]; rfl); clear hb a0 a1 x0) | (at_mapUpdate; refine wpList_update_ex rfl _ _ _ _ rfl (.map (some (w.heap.size + 1))) (encP2 (ta, tb)) (.int .i64 frm) rfl rfl rfl _ (HM10.out.update keyP2 (fun a => ⟨a, rfl⟩) encP2_inj Tryz.underlying60 (ta, tb) (.int .i64 frm)) ?_; rintro w11 ⟨hM11, hz11, hg11⟩; have HN := Lib.hid (show Below w.heap.size w w11 ∧ MapAt encP2 (w.heap.size + 1) (put (compM sp ex (l.take k)) (ta, tb) (.int .i64 frm)) w11 ∧ w11.cell? ⟨w.heap.size, 0, none⟩ = some (.slice A1 n1 c1) ∧ w11.cell? ⟨w.heap.size, 2, none⟩ = some (.slice A3 n3 c3) from ⟨(bthen HB8.out Cb10.out).grown hg11 (by have h1 := HB8.out.size; have h2 := Cb10.out.size; omega) (fun r e => by cases e; omega), hM11, grown_cell hg11 (bcel Cb10.out G0.out) (by simp), grown_cell hg11 (bcel Cb10.out G2.out) (by simp)⟩); clear hM11 hz11 hg11))
            go_roundw
            case rel => exact ⟨k + 1, by omega, by go_num, Lib.hid HN.out.1, Lib.hid (by rw [HST'.out]; exact HN.out.2.1), Lib.hid HN.out.2.2.1, Lib.hid HN.out.2.2.2⟩
            case measure => simp [intOf]; omega
          | some v =>
            obtain ⟨c, rfl⟩ := look_int (compM_int sp ex (l.take k)) hK
            have HLK := Lib.hid hK
            have HST' := Lib.hid (HST.out.trans (cstep_less rfl HCM.out hH hK))
            clear hK
            by_cases hlc : frm < c
            · have hdl : decide (frm < c) = true := decide_eq_true hlc
              replace HST' := Lib.hid (HST'.out.trans (if_pos hlc))
              go_wp2_with (first | (go_at_call 31; refine (hcomp_any ta tb _).mono ?_; rintro e w10 ⟨rfl, hb⟩; rw [hH]; have Cb10 := Lib.hid (bthen Cb9.out hb); have b0 := bcel hb a0; have b1 := bcel hb a1; have b2 := bcel hb x0; have HM10 := Lib.hid (HM8.out.below Cb10.out); have HL10 : (Instr.lookup 60 (.map (some (w.heap.size + 1))) (.agg #[.int .i64 ta, .int .i64 tb]) true).run Tryz.prog w10 = .ok (.tuple #[.int .i64 c, .bool true]) w10 := (lookP2 HM10.out ta tb).trans (by rw [HLK.out]; rfl); clear hb a0 a1 x0) | (at_mapUpdate; refine wpList_update_ex rfl _ _ _ _ rfl (.map (some (w.heap.size + 1))) (encP2 (ta, tb)) (.int .i64 frm) rfl rfl rfl _ (HM10.out.update keyP2 (fun a => ⟨a, rfl⟩) encP2_inj Tryz.underlying60 (ta, tb) (.int .i64 frm)) ?_; rintro w11 ⟨hM11, hz11, hg11⟩; have HN := Lib.hid (show Below w.heap.size w w11 ∧ MapAt encP2 (w.heap.size + 1) (put (compM sp ex (l.take k)) (ta, tb) (.int .i64 frm)) w11 ∧ w11.cell? ⟨w.heap.size, 0, none⟩ = some (.slice A1 n1 c1) ∧ w11.cell? ⟨w.heap.size, 2, none⟩ = some (.slice A3 n3 c3) from ⟨(bthen HB8.out Cb10.out).grown hg11 (by have h1 := HB8.out.size; have h2 := Cb10.out.size; omega) (fun r e => by cases e; omega), hM11, grown_cell hg11 (bcel Cb10.out G0.out) (by simp), grown_cell hg11 (bcel Cb10.out G2.out) (by simp)⟩); clear hM11 hz11 hg11))
              go_roundw
              case rel => exact ⟨k + 1, by omega, by go_num, Lib.hid HN.out.1, Lib.hid (by rw [HST'.out]; exact HN.out.2.1), Lib.hid HN.out.2.2.1, Lib.hid HN.out.2.2.2⟩
              case measure => simp [intOf]; omega
            · have hdl : decide (frm < c) = false := decide_eq_false hlc
              replace HST' := Lib.hid (HST'.out.trans (if_neg hlc))
              go_wp2_with (go_at_call 31; refine (hcomp_any ta tb _).mono ?_; rintro e w10 ⟨rfl, hb⟩; rw [hH]; have Cb10 := Lib.hid (bthen Cb9.out hb); have b0 := bcel hb a0; have b1 := bcel hb a1; have b2 := bcel hb x0; have HM10 := Lib.hid (HM8.out.below Cb10.out); have HL10 : (Instr.lookup 60 (.map (some (w.heap.size + 1))) (.agg #[.int .i64 ta, .int .i64 tb]) true).run Tryz.prog w10 = .ok (.tuple #[.int .i64 c, .bool true]) w10 := (lookP2 HM10.out ta tb).trans (by rw [HLK.out]; rfl); clear hb a0 a1 x0)
              go_roundw
              case rel => exact ⟨k + 1, by omega, by go_num, Lib.hid (bthen HB8.out Cb10.out), Lib.hid (by rw [HST'.out]; exact HM10.out), Lib.hid (bcel Cb10.out G0.out), Lib.hid (bcel Cb10.out G2.out)⟩
              case measure => simp [intOf]; omega
    · have e : k = n2 := by omega
      subst e
      have hlt' : ¬ (k : Int) < (k : Int) := by omega
      have HTk := Lib.hid (show compM sp ex (l.take k) = compM sp ex l by rw [List.take_of_length_le (by rw [HL.out]; exact Nat.le_refl _)])
      go_wp2_with fail
      go_ret
      exact ⟨w.heap.size + 1, rfl, by rw [← HTk.out]; exact HMp.out, by omega, HB.out⟩
end Go.Proofs.YtfeofhinpgodoaaGreatDoor

namespace Go.Proofs.YtfeofhinpgodoaaGreatDoor
open Go.RowKit Go.Shelf

/-- The value of an api.Norm that may be read. -/
def RdN (w : World) (v : Value) (sp : List Sp) (l : List Mp) (ex : List Rg) : Prop :=
  ∃ A1 A2 A3 n1 c1 n2 c2 n3 c3, v = .agg #[.slice A1 n1 c1, .slice A2 n2 c2, .slice A3 n3 c3] ∧ RdSp w A1 n1 sp ∧ RdMp w A2 n2 l ∧ RdRg w A3 n3 ex ∧ n3 ≤ 1000000 ∧ n2 ≤ 900000
theorem RdN.below {w w1 : World} {v : Value} {sp : List Sp} {l : List Mp} {ex : List Rg} (h : RdN w v sp l ex) (hb : Below w.heap.size w w1) : RdN w1 v sp l ex := by
  obtain ⟨A1, A2, A3, n1, c1, n2, c2, n3, c3, rfl, h1, h2, h3, h4, h5⟩ := h
  exact ⟨A1, A2, A3, n1, c1, n2, c2, n3, c3, rfl, h1.below hb, h2.below hb, h3.below hb, h4, h5⟩
/-- What valid data is taken for. -/
noncomputable def effS (sp : List Sp) (l : List Mp) (ex : List Rg) : List Sp := if normE sp l ex = 0 then sp else []
noncomputable def effM (sp : List Sp) (l : List Mp) (ex : List Rg) : List Mp := if normE sp l ex = 0 then l else []
noncomputable def effX (sp : List Sp) (l : List Mp) (ex : List Rg) : List Rg := if normE sp l ex = 0 then ex else []
theorem rdN_nil (w : World) : RdN w (.agg #[.slice none 0 0, .slice none 0 0, .slice none 0 0]) [] [] [] :=
  ⟨none, none, none, 0, 0, 0, 0, 0, 0, rfl, ⟨rfl, by omega, fun h => absurd h (by omega)⟩, ⟨[], rfl, ⟨rfl, by omega, fun h => absurd h (by omega)⟩, fun m hm => by cases hm⟩, ⟨rfl, by omega, fun h => absurd h (by omega)⟩, by omega, by omega⟩
def ValPost (sp : List Sp) (l : List Mp) (ex : List Rg) (w : World) (e : Ending) (w' : World) : Prop :=
  ∃ A1 A2 A3 n1 c1 n2 c2 n3 c3, e = .returned (.agg #[.slice A1 n1 c1, .slice A2 n2 c2, .slice A3 n3 c3]) ∧ RdN w' (.agg #[.slice A1 n1 c1, .slice A2 n2 c2, .slice A3 n3 c3]) (effS sp l ex) (effM sp l ex) (effX sp l ex) ∧ Below w.heap.size w w'
theorem valid_N (v : Value) (sp : List Sp) (l : List Mp) (ex : List Rg) (w : World) (h : RdN w v sp l ex) (hG : Glob w) :
    Calls Tryz.prog 33 #[v] w (ValPost sp l ex w) := by
  obtain ⟨A1, A2, A3, n1, c1, n2, c2, n3, c3, rfl, h1, h2, h3, h4, h5⟩ := h
  refine (cvalid_any A1 A2 A3 n1 c1 n2 c2 n3 c3 sp l ex w h1 h2 h3 h4 hG).mono ?_
  rintro e w' ⟨⟨hE, rfl⟩ | ⟨hE, rfl⟩, hb⟩
  · exact ⟨A1, A2, A3, n1, c1, n2, c2, n3, c3, rfl, by rw [effS, effM, effX, if_pos hE, if_pos hE, if_pos hE]; exact RdN.below ⟨A1, A2, A3, n1, c1, n2, c2, n3, c3, rfl, h1, h2, h3, h4, h5⟩ hb, hb⟩
  · exact ⟨none, none, none, 0, 0, 0, 0, 0, 0, rfl, by rw [effS, effM, effX, if_neg hE, if_neg hE, if_neg hE]; exact rdN_nil w', hb⟩
/-- The composites of what the data is taken for. -/
noncomputable def cmE (sp : List Sp) (l : List Mp) (ex : List Rg) : List ((Int × Int) × Value) := compM (effS sp l ex) (effX sp l ex) (effM sp l ex)
theorem comps_N (v : Value) (sp : List Sp) (l : List Mp) (ex : List Rg) (w : World) (h : RdN w v sp l ex) (hG : Glob w) :
    Calls Tryz.prog 32 #[v] w (CompPost (compM sp ex l) w) := by
  obtain ⟨A1, A2, A3, n1, c1, n2, c2, n3, c3, rfl, h1, h2, h3, h4, h5⟩ := h
  exact comps_any A1 A2 A3 n1 c1 n2 c2 n3 c3 sp l ex w h1 h2 h3 h4 hG
def pairI (kv : List ((Int × Int) × Value)) (a b : Int) : Option Int :=
  match hcomp a b with
  | some c => some c
  | none => (match look kv (a, b) with | some (.int .i64 c) => some c | _ => none)
theorem pairI_h {kv : List ((Int × Int) × Value)} {a b c : Int} (h : hcomp a b = some c) : pairI kv a b = some c := by rw [pairI, h]
theorem pairI_none {kv : List ((Int × Int) × Value)} {a b : Int} (h : hcomp a b = none) (hl : look kv (a, b) = none) : pairI kv a b = none := by rw [pairI, h, hl]
theorem pairI_some {kv : List ((Int × Int) × Value)} {a b c : Int} (h : hcomp a b = none) (hl : look kv (a, b) = some (.int .i64 c)) : pairI kv a b = some c := by rw [pairI, h, hl]

set_option maxRecDepth 100000 in
set_option maxHeartbeats 2000000 in
theorem pair_any (v : Value) (sp : List Sp) (l : List Mp) (ex : List Rg) (a b : Int) (w : World) (h : RdN w v sp l ex) (hG : Glob w) :
    Calls Tryz.prog 12 #[v, .int .i64 a, .int .i64 b] w fun e w' => e = .returned (.tuple #[.int .i64 ((pairI (cmE sp l ex) a b).getD 0), .bool (pairI (cmE sp l ex) a b).isSome]) ∧ Below w.heap.size w w' := by
  obtain ⟨A1, A2, A3, n1, c1, n2, c2, n3, c3, rfl, h1, h2, h3, h4, h5⟩ := h
  obtain ⟨W0, hW0⟩ : ∃ W0, W0 = w.alloc (.cells #[.slice A1 n1 c1, .slice A2 n2 c2, .slice A3 n3 c3] 28) := ⟨_, rfl⟩
  have hb0 : Below w.heap.size w W0 := by rw [hW0]; exact (Below.refl _ _).alloc (Nat.le_refl _) _
  have b0 : W0.cell? ⟨w.heap.size, 0, none⟩ = some (.slice A1 n1 c1) := by rw [hW0]; go_simp
  have b1 : W0.cell? ⟨w.heap.size, 1, none⟩ = some (.slice A2 n2 c2) := by rw [hW0]; go_simp
  have b2 : W0.cell? ⟨w.heap.size, 2, none⟩ = some (.slice A3 n3 c3) := by rw [hW0]; go_simp
  have hR0 : RdN W0 (.agg #[.slice A1 n1 c1, .slice A2 n2 c2, .slice A3 n3 c3]) sp l ex := RdN.below ⟨A1, A2, A3, n1, c1, n2, c2, n3, c3, rfl, h1, h2, h3, h4, h5⟩ hb0
  have HB0 := Lib.hid hb0
  have HR := Lib.hid hR0; have HG := Lib.hid (hG.below hb0)
  clear h1 h2 h3 hG hb0 hR0
  have hu := Tryz.underlying62
  cases hH : hcomp a b with
  | some c =>
    have HP := Lib.hid (pairI_h (kv := cmE sp l ex) hH)
    go_enter Tryz.func12, Tryz.ntmps12
    go_wp2_with fail
    rw [← hW0]
    clear hW0
    refine (hcomp_any a b _).mono ?_
    rintro e w1 ⟨rfl, hb⟩
    rw [hH]
    go_wp2_with fail
    go_ret2
    exact ⟨by rw [HP.out]; rfl, bthen HB0.out hb⟩
  | none =>
    have HH := Lib.hid hH
    go_enter Tryz.func12, Tryz.ntmps12
    go_wp2_with fail
    rw [← hW0]
    clear hW0
    refine (hcomp_any a b _).mono ?_
    rintro e w1 ⟨rfl, hb⟩
    rw [hH]
    have d0 := bcel hb b0; have d1 := bcel hb b1; have d2 := bcel hb b2
    clear b0 b1 b2
    go_wp2_with fail
    refine (valid_N _ sp l ex w1 (HR.out.below hb) (HG.out.below hb)).mono ?_
    rintro e w2 ⟨B1, B2, B3, m1, e1, m2, e2, m3, e3, rfl, hN, hb2⟩
    have HB2 := Lib.hid (bthen hb hb2)
    have HN := Lib.hid hN
    clear hb hb2 hN
    go_wp2_with fail
    refine (comps_N _ _ _ _ w2 HN.out (HG.out.below HB2.out)).mono ?_
    rintro e w3 ⟨bm, rfl, hM, hlt, hb3⟩
    have HM := Lib.hid (show MapAt encP2 bm (cmE sp l ex) w3 from hM)
    have HB3 := Lib.hid (bthen HB2.out hb3)
    clear hM hb3
    cases hK : look (cmE sp l ex) (a, b) with
    | none =>
      have HP := Lib.hid (pairI_none (kv := cmE sp l ex) hH hK)
      have HL : (Instr.lookup 60 (.map (some bm)) (.agg #[.int .i64 a, .int .i64 b]) true).run Tryz.prog w3 = .ok (.tuple #[.int .i64 0, .bool false]) w3 := (lookP2 HM.out a b).trans (by rw [hK]; rfl)
      clear hK
      go_wp2_with fail
      go_ret2
      exact ⟨by rw [HP.out]; rfl, bthen HB0.out HB3.out⟩
    | some u =>
      obtain ⟨c, rfl⟩ := look_int (compM_int _ _ _) hK
      have HP := Lib.hid (pairI_some (kv := cmE sp l ex) hH hK)
      have HL : (Instr.lookup 60 (.map (some bm)) (.agg #[.int .i64 a, .int .i64 b]) true).run Tryz.prog w3 = .ok (.tuple #[.int .i64 c, .bool true]) w3 := (lookP2 HM.out a b).trans (by rw [hK]; rfl)
      clear hK
      go_wp2_with fail
      go_ret2
      exact ⟨by rw [HP.out]; rfl, bthen HB0.out HB3.out⟩
end Go.Proofs.YtfeofhinpgodoaaGreatDoor

namespace Go.Proofs.YtfeofhinpgodoaaGreatDoor
open Go.RowKit Go.Shelf Go.Sort

structure T3 where
  a : Int
  b : Int
  c : Int
  deriving DecidableEq, Inhabited
def encT (x : T3) : List Value := [.int .i64 x.a, .int .i64 x.b, .int .i64 x.c]
theorem encT_len (x : T3) : (encT x).length = 3 := rfl
theorem encT_one (x : T3) : ∀ v ∈ encT x, v.oneCell' = true := fun v hv => by
  simp [encT] at hv
  rcases hv with rfl | rfl | rfl <;> rfl
abbrev RdT := Rd encT 3
theorem flat_three {xs : List T3} {u : Value} (h : u ∈ xs.flatMap encT) : u.oneCell' = true := by
  obtain ⟨x, _, hx⟩ := List.mem_flatMap.1 h
  exact encT_one x u hx
theorem infoT : (Tryz.prog.info? 36).map (fun i => (i.zero, i.size, i.bytes)) = some (some (.agg #[.int .i64 0, .int .i64 0, .int .i64 0]), 3, 24) := by kernel_rfl
theorem wpList_append_t3 {ops : Array Oper} {rest : List Oper} {o : Oper} {a : Act} {Q : Exit → Act → World → Prop} {w : World} (hgd : o.guard = none) (s x : Operand)
    (ho : o.op = .call { callee := .builtin .append, args := #[s, x], argTypes := #[34, 34] })
    (base : Nat) (v : Value) (n : Nat) (xs : List T3) (hs : a.eval s = v) (hown : w.ownsRow base 36 3 v n (xs.flatMap encT))
    (ad : Addr) (m c : Nat) (news : List T3) (hx : a.eval x = .slice (some ad) m c) (hR : RdT w (some ad) m news) (hn : n + m ≤ 1000000000) (hbase : base ≤ w.heap.size)
    (h : ∀ v' w', w'.ownsRow base 36 3 v' (n + m) ((xs ++ news).flatMap encT) → Below base w w' → wpList Tryz.prog ops Q rest (a.put o.dst v') w') :
    wpList Tryz.prog ops Q (o :: rest) a w := by
  obtain ⟨i0, hi, hz0, hz1, hz2⟩ := info_parts infoT
  have hl : (news.flatMap encT).length = m * 3 := by rw [flat_len encT_len, hR.len]
  refine wpList_append_own_at w hgd s x 34 ho base 36 i0 (.agg #[.int .i64 0, .int .i64 0, .int .i64 0]) 3 24 Tryz.underlying34 hi hz0 hz1 hz2 rfl (by decide) v n _ hs hown ad m c (news.flatMap encT) hx hl ?_ (fun u hu => flat_three hu) (by simp only [maxLen]; omega) (by omega) hbase ?_
  · intro j u hu
    have hj : j < news.length * 3 := by have := (List.getElem?_eq_some_iff.1 hu).1; rwa [flat_len encT_len] at this
    obtain ⟨b, off, e, hc⟩ := hR.cells (by have := hR.len; omega)
    cases e
    have hi2 : j / 3 < news.length := by omega
    have e2 := flat_at encT_len news (j / 3) (j % 3) hi2 (by omega)
    have e3 : j / 3 * 3 + j % 3 = j := by omega
    rw [e3] at e2
    rw [e2] at hu
    have := hc (j / 3) hi2 (j % 3) u hu
    rw [Addr.add_lit]
    rwa [Nat.add_assoc, e3] at this
  · intro v' w' h1 h2 _ _
    exact h v' w' (by rw [List.flatMap_append]; exact h1) ((Below.refl base w).grown h2 hbase (fun r e => (hown.lt r e).1))
theorem litT (w : World) (cs : Array Value) (e : TypeId) (B n : Nat) (xs : List T3) (hB : w.heap.size = B) (h : cs.toList = xs.flatMap encT) (hn : n ≤ 17592186044416) (hs : cs.size = n * 3) : RdT (w.alloc (.cells cs e)) (some ⟨B, 0, none⟩) n xs :=
  hB ▸ lit_rd encT_len (by omega) w cs e n xs h hn hs

/-- The program's order. -/
def cmpT (x y : T3) : Int := orI [cmp3 x.a y.a, cmp3 x.b y.b]
def LtT (x y : T3) : Prop := x.a < y.a ∨ (x.a = y.a ∧ x.b < y.b)
instance (x y : T3) : Decidable (LtT x y) := by unfold LtT; infer_instance
theorem cmpT_lt (x y : T3) : cmpT x y < 0 ↔ LtT x y := by
  unfold cmpT orI cmp3 LtT
  by_cases h1 : x.a < y.a
  · simp [h1]
  · by_cases h2 : y.a < x.a
    · simp [h1, h2]; omega
    · by_cases h3 : x.b < y.b
      · simp [h1, h2, h3]; omega
      · by_cases h4 : y.b < x.b
        · simp [h1, h2, h3, h4]
        · simp [h1, h2, h3, h4]
theorem ltT_of (x y : T3) : ltOf cmpT x y = decide (LtT x y) := by
  unfold ltOf
  exact decide_eq_decide.2 (cmpT_lt x y)
theorem ltT_trans {x y z : T3} (h1 : LtT x y) (h2 : LtT y z) : LtT x z := by
  unfold LtT at *
  omega
theorem ltT_ntrans {x y z : T3} (h1 : ¬ LtT x y) (h2 : ¬ LtT y z) : ¬ LtT x z := by
  unfold LtT at *
  omega
theorem swoT : SWO (ltOf cmpT) where
  irrefl x := by rw [ltT_of]; simp [LtT]
  trans x y z h1 h2 := by
    rw [ltT_of] at *
    have g1 := of_decide_eq_true h1
    have g2 := of_decide_eq_true h2
    exact decide_eq_true (ltT_trans g1 g2)
  ntrans x y z h1 h2 := by
    rw [ltT_of] at *
    have g1 := of_decide_eq_false h1
    have g2 := of_decide_eq_false h2
    exact decide_eq_false (ltT_ntrans g1 g2)

/-- Two lists that a strict order sorts and that have the same members are the same. -/
theorem asc_ext {α : Type} {R : α → α → Prop} (ir : ∀ x, ¬ R x x) (asy : ∀ x y, R x y → ¬ R y x) : ∀ l1 l2 : List α, l1.Pairwise R → l2.Pairwise R → (∀ x, x ∈ l1 ↔ x ∈ l2) → l1 = l2
  | [], [], _, _, _ => rfl
  | [], b :: t, _, _, h => absurd ((h b).2 (by simp)) (by simp)
  | a :: s, [], _, _, h => absurd ((h a).1 (by simp)) (by simp)
  | a :: s, b :: t, h1, h2, h => by
    obtain ⟨p1, p2⟩ := List.pairwise_cons.1 h1
    obtain ⟨q1, q2⟩ := List.pairwise_cons.1 h2
    have e : a = b := by
      rcases List.mem_cons.1 ((h a).1 (by simp)) with e | m1
      · exact e
      · rcases List.mem_cons.1 ((h b).2 (by simp)) with e | m2
        · exact e.symm
        · exact absurd (p1 b m2) (asy _ _ (q1 a m1))
    subst e
    rw [asc_ext ir asy s t p2 q2 (fun x => ⟨fun hx => ?_, fun hx => ?_⟩)]
    · rcases List.mem_cons.1 ((h x).1 (by simp [hx])) with e | m
      · exact absurd (e ▸ p1 x hx) (ir a)
      · exact m
    · rcases List.mem_cons.1 ((h x).2 (by simp [hx])) with e | m
      · exact absurd (e ▸ q1 x hx) (ir a)
      · exact m
/-- What is covered by as few is a permutation. -/
theorem perm_of_cover {α : Type} [DecidableEq α] : ∀ (l1 l2 : List α), l1.Nodup → (∀ x ∈ l1, x ∈ l2) → l2.length ≤ l1.length → l1.Perm l2
  | [], l2, _, _, h => by
    have : l2 = [] := List.eq_nil_of_length_eq_zero (by simpa using h)
    subst this; exact .refl _
  | a :: t, l2, hn, hc, h => by
    obtain ⟨h1, h2⟩ := List.nodup_cons.1 hn
    have ha := hc a (by simp)
    refine ((perm_of_cover t (l2.erase a) h2 (fun x hx => ?_) ?_).cons a).trans (List.perm_cons_erase ha).symm
    · exact (List.mem_erase_of_ne (fun e => h1 (by rw [← e]; exact hx))).2 (hc x (by simp [hx]))
    · rw [List.length_erase_of_mem ha]; simp only [List.length_cons] at h; omega
theorem put_nodup {κ : Type} [DecidableEq κ] {kv : List (κ × Value)} (h : (kv.map (·.1)).Nodup) (a : κ) (v : Value) : ((put kv a v).map (·.1)).Nodup := by
  rw [put_keys]
  split
  · exact h
  · rename_i hn
    rw [List.nodup_append]
    exact ⟨h, by simp, fun x hx y hy e => hn (by simp at hy; rw [← hy, ← e]; exact hx)⟩
theorem cstep_nodup {sp : List Sp} {ex : List Rg} {kv : List ((Int × Int) × Value)} {m : Mp} (h : (kv.map (·.1)).Nodup) : ((cstep sp ex kv m).map (·.1)).Nodup := by
  unfold cstep
  repeat' split
  all_goals first | exact h | exact put_nodup h _ _
theorem compM_nodup (sp : List Sp) (ex : List Rg) : ∀ (l : List Mp), ((compM sp ex l).map (·.1)).Nodup := by
  suffices ∀ (l : List Mp) (kv : List ((Int × Int) × Value)), (kv.map (·.1)).Nodup → ((l.foldl (cstep sp ex) kv).map (·.1)).Nodup from fun l => this l [] (by simp)
  intro l
  induction l with
  | nil => exact fun kv h => h
  | cons m t ih => exact fun kv h => ih _ (cstep_nodup h)
theorem look_of_mem {κ : Type} [DecidableEq κ] : ∀ {kv : List (κ × Value)}, (kv.map (·.1)).Nodup → ∀ {p : κ × Value}, p ∈ kv → look kv p.1 = some p.2
  | [], _, _, h => by cases h
  | q :: r, hn, p, h => by
    obtain ⟨h1, h2⟩ := List.nodup_cons.1 (show (q.1 :: r.map (·.1)).Nodup from hn)
    rw [look_cons]
    rcases List.mem_cons.1 h with rfl | hm
    · rw [if_pos rfl]
    · rw [if_neg (fun e => h1 (by rw [e]; exact List.mem_map.2 ⟨p, hm, rfl⟩)), look_of_mem h2 hm]

/-- The sorted list of the pairs with their composites. -/
def PairsOf (kv : List ((Int × Int) × Value)) (ys : List T3) : Prop := ys.Pairwise LtT ∧ ∀ t, t ∈ ys ↔ look kv (t.a, t.b) = some (.int .i64 t.c)
theorem PairsOf.ext {kv : List ((Int × Int) × Value)} {ys zs : List T3} (h1 : PairsOf kv ys) (h2 : PairsOf kv zs) : ys = zs :=
  asc_ext (fun x => by simp [LtT]) (fun x y => by simp [LtT]; omega) ys zs h1.1 h2.1 (fun x => (h1.2 x).trans (h2.2 x).symm)
/-- What has been gathered while ranging: entries of the map, as many as have been seen at most. -/
def Gath (kv : List ((Int × Int) × Value)) (vs : List T3) : Prop := ∀ t ∈ vs, ((t.a, t.b), Value.int .i64 t.c) ∈ kv
theorem pairsOf_of {kv : List ((Int × Int) × Value)} {vs ys : List T3} (hn : (kv.map (·.1)).Nodup) (hi : IntV kv) (hg : Gath kv vs) (hc : ∀ p ∈ kv, ∃ t ∈ vs, (t.a, t.b) = p.1) (hl : vs.length ≤ kv.length)
    (hp : ys.Perm vs) (hs : ys.Pairwise fun x y => ¬ LtT y x) : PairsOf kv ys := by
  have hlk : ∀ t, t ∈ ys ↔ look kv (t.a, t.b) = some (.int .i64 t.c) := by
    intro t
    rw [hp.mem_iff]
    constructor
    · intro h; exact look_of_mem hn (hg t h)
    · intro h
      obtain ⟨u, hu, e⟩ := hc _ (look_some_mem h)
      have h2 := look_of_mem hn (hg u hu)
      simp only at h2 e
      rw [e, h] at h2
      simp at h2 e
      have : u = t := by cases u; cases t; simp_all
      exact this ▸ hu
  refine ⟨?_, hlk⟩
  have hnd : (vs.map fun t => (t.a, t.b)).Nodup := by
    have := perm_of_cover (kv.map (·.1)) (vs.map fun t => (t.a, t.b)) hn (fun x hx => by
      obtain ⟨p, hp, rfl⟩ := List.mem_map.1 hx
      obtain ⟨t, ht, e⟩ := hc p hp
      exact List.mem_map.2 ⟨t, ht, e⟩) (by simpa using hl)
    exact this.nodup_iff.1 hn
  have hny : (ys.map fun t => (t.a, t.b)).Nodup := ((hp.map _).nodup_iff).2 hnd
  have hny2 : ys.Pairwise fun x y => (x.a, x.b) ≠ (y.a, y.b) := List.pairwise_map.1 hny
  refine (hs.and hny2).imp ?_
  rintro x y ⟨h1, h2⟩
  simp [LtT] at *
  omega
end Go.Proofs.YtfeofhinpgodoaaGreatDoor

namespace Go.Proofs.YtfeofhinpgodoaaGreatDoor
open Go.RowKit Go.Shelf Go.Sort

theorem grow3 (W : World) (a b c : Obj) : ∃ os, ((W.alloc a).alloc b).drew.alloc c = grow (W.drewN 1) os := by
  exact ⟨_, (show ((W.drew.alloc a).alloc b).alloc c = grow W.drew ((#[a] ++ #[b]) ++ #[c]) by rw [alloc_eq_grow, alloc_eq_grow, alloc_eq_grow, grow_grow, grow_grow, Array.append_assoc])⟩
set_option maxRecDepth 100000 in
set_option maxHeartbeats 2000000 in
theorem pairs1_any (x y : T3) (W : World) : Calls Tryz.prog 39 #[.agg #[.int .i64 x.a, .int .i64 x.b, .int .i64 x.c], .agg #[.int .i64 y.a, .int .i64 y.b, .int .i64 y.c]] W fun e w' => e = .returned (.int .i64 (cmpT x y)) ∧ ∃ q os', w' = grow (W.drewN q) os' := by
  obtain ⟨q, hq⟩ : ∃ q, q = cmpT x y := ⟨_, rfl⟩
  have HQ := Lib.hid (show orI [cmp3 x.a y.a, cmp3 x.b y.b] = q from hq.symm)
  have HE := Lib.hid hq
  clear hq
  go_enter Tryz.func39, Tryz.ntmps39
  go_wp2_with fail
  refine still_tail_drew 10 (by kernel_rfl) (by kernel_rfl) ?_
  simp only [List.take_succ_cons, List.take_zero, List.drop_succ_cons, List.drop_zero]
  repeat still_step
  still_call ((compare_any _ _ _).mono fun _ _ h => ⟨h.1, h.2.symm⟩)
  repeat still_step
  still_call ((compare_any _ _ _).mono fun _ _ h => ⟨h.1, h.2.symm⟩)
  try refine wpStill_nil ?_
  go_wp2_with (go_at_call 40; refine (or_any _ 2 _ [cmp3 x.a y.a, cmp3 x.b y.b] _ (by exact litId _ _ _ _ _ _ (by simp) rfl (by omega) rfl)).mono ?_; rintro e w' ⟨rfl, rfl⟩; rw [HQ.out])
  go_ret
  exact ⟨ret_int HE.out, 1, grow3 W _ _ _⟩

set_option maxHeartbeats 1000000 in
theorem sortT_any (base g n cap : Nat) (xs : List T3) (w : World) (h : w.ownsRow base 36 3 (.slice (some ⟨g, 0, none⟩) n cap) n (xs.flatMap encT)) (hl : xs.length = n) (hb : base ≤ g) (hg : g < w.heap.size) (hn : n ≤ 17592186044416) :
    Calls Tryz.prog 38 #[.slice (some ⟨g, 0, none⟩) n cap, .func (.func 39) #[] #[]] w fun e w' =>
      e = .returned (.tuple #[]) ∧ ∃ ys : List T3, ys.Perm xs ∧ (ys.Pairwise fun x y => ¬ LtT y x) ∧ RdT w' (some ⟨g, 0, none⟩) n ys ∧ RowKit.Below base w w' := by
  have hH := holdsK_own encT_len (by omega) h hl
  have hd : xs.toArray.size = n := by simpa using hl
  have eg : ∀ args w, (callFunc 39 args).run Tryz.prog w = .ok (.enter 39 args) w := enters_of Tryz.func39 (by kernel_rfl) rfl
  have hcon := AnyQ.slices_SortFunc Tryz.sortT3 3 Tryz.isAgg36 Tryz.sizeOf36 encT encT_len encT_one cmpT swoT 39 #[] g 0 cap xs.toArray w eg (fun _ _ _ _ x y => pairs1_any x y _) hH hg (by rw [hd]; omega)
  rw [hd] at hcon
  refine hcon.mono fun e w' ⟨he, d', m, os, hp, hs, hw⟩ => ⟨he, d'.toList, ?_, ?_, ?_, ?_⟩
  · have := hp.2.2
    rw [Array.extract_eq_self_of_le (by rw [hp.1, hd]; exact Nat.le_refl _), Array.extract_eq_self_of_le (by rw [hd]; exact Nat.le_refl _)] at this
    simpa using this
  · rw [List.pairwise_iff_getElem]
    intro i j hi hj hij
    have hsz : d'.size = n := by rw [hp.1, hd]
    have hj' : j < d'.size := by simpa using hj
    have h1 := hs i j (Nat.zero_le _) hij (by rw [← hsz]; exact hj')
    rw [getElem!_pos d' i (by omega), getElem!_pos d' j hj', ltT_of] at h1
    simpa using of_decide_eq_false h1
  · have h1 := holdsK_sortWorldK encT 3 w g 0 m xs.toArray d' os hg hH hp.1
    rw [hw]
    have h2 := rd_holdsK encT_len h1 (by rw [hp.1, hd]; exact hn)
    have : d'.size = n := by rw [hp.1, hd]
    rwa [this] at h2
  · rw [hw]
    exact sortWorldK_below hb hg

set_option maxRecDepth 100000 in
set_option maxHeartbeats 2000000 in
theorem sortNilT_any (g : FuncId) (w : World) :
    Calls Tryz.prog 38 #[.slice none 0 0, .func (.func g) #[] #[]] w fun e w' => e = .returned (.tuple #[]) ∧ RowKit.Below w.heap.size w w' := by
  have pdq : ∀ (l : Int) (W : World), Calls Tryz.prog 60 #[.slice none 0 0, .int .i64 0, .int .i64 0, .int .i64 l, .func (.func g) #[] #[]] W fun e w' => e = .returned (.tuple #[]) ∧ RowKit.Below W.heap.size W w' := by
    intro l W
    have ins : ∀ W : World, Calls Tryz.prog 83 #[.slice none 0 0, .int .i64 0, .int .i64 0, .func (.func g) #[] #[]] W fun e w' => e = .returned (.tuple #[]) ∧ RowKit.Below W.heap.size W w' := by
      intro W
      go_enter Tryz.func83, Tryz.ntmps83
      go_wp2_with fail
      refine wp_loop_rounds 2 ?_; rw [rounds_succ]
      go_wp2_with fail
      go_end0
      exact ⟨rfl, RowKit.Below.refl _ _⟩
    go_enter Tryz.func60, Tryz.ntmps60
    go_wp2_with fail
    refine wp_loop_rounds 2 ?_; rw [rounds_succ]
    go_wp2_with fail
    refine (ins _).mono ?_
    rintro e w1 ⟨rfl, hb⟩
    go_wp2_with fail
    refine bodyPost_ret (results_none rfl _ _ _) rfl ?_
    exact ⟨rfl, hb⟩
  go_enter Tryz.func38, Tryz.ntmps38
  go_wp2_with (go_at_call 61; refine (Tryz.bits_Len 0 _ (by omega) (by omega)).mono ?_; rintro e w' ⟨rfl, rfl⟩)
  refine (pdq _ _).mono ?_
  rintro e w1 ⟨rfl, hb⟩
  go_wp2_with fail
  go_end0
  exact ⟨rfl, hb⟩

theorem sortGotT_any (base m : Nat) (s : Value) (xs : List T3) (w : World) (h : w.ownsRow base 36 3 s m (xs.flatMap encT)) (hl : xs.length = m) (hz : m = 0 → s = .slice none 0 0) (hbase : base ≤ w.heap.size) (hn : m ≤ 17592186044416) :
    Calls Tryz.prog 38 #[s, .func (.func 39) #[] #[]] w fun e w' =>
      e = .returned (.tuple #[]) ∧ ∃ A2 c2 ys, s = .slice A2 m c2 ∧ ys.Perm xs ∧ (ys.Pairwise fun x y => ¬ LtT y x) ∧ RdT w' A2 m ys ∧ RowKit.Below base w w' := by
  cases m with
  | zero =>
    obtain rfl := hz rfl
    obtain rfl := List.eq_nil_of_length_eq_zero hl
    exact (sortNilT_any _ w).mono fun e w' ⟨he, hb⟩ => ⟨he, none, 0, [], rfl, List.Perm.refl _, .nil, Rd.nil, hb.mono hbase⟩
  | succ m =>
    obtain ⟨g, cap, rfl, hg1, hg2⟩ := h.form (by omega)
    exact (sortT_any base g (m + 1) cap xs w h hl hg1 hg2 hn).mono fun e w' ⟨he, ys, h1, h2, h3, h4⟩ => ⟨he, _, cap, ys, rfl, h1, h2, h3, h4⟩

theorem wpList_next_p2 {kv : List ((Int × Int) × Value)} {b r : Nat} {P : Program} {ops : Array Oper} {rest : List Oper} {o : Oper} {a : Act} {Q : Exit → Act → World → Prop} {w : World} (hg : o.guard = none) (it : Operand) (hop : o.op = Op.next it false) (hit : a.eval it = .pointer (some ⟨r, 0, none⟩)) (hI : IntV kv) (cnt : Nat) (Done : (Int × Int) → Prop) (h : RangeAt encP2 b r kv cnt Done w)
    (hDone : (∀ p ∈ kv, Done p.1) → wpList P ops Q rest (a.put o.dst (.tuple #[.bool false])) w)
    (hMore : ∀ x y c w' cnt', ((x, y), Value.int .i64 c) ∈ kv → RangeAt encP2 b r kv cnt' (fun k => Done k ∨ k = (x, y)) w' → cnt' < cnt → w.grownBy w' (some r) → w'.heap.size = w.heap.size → (Instr.entry (.pointer (some ⟨r, 0, none⟩))).run P w' = .ok (.tuple #[.agg #[.int .i64 x, .int .i64 y], .int .i64 c]) w' →
      wpList P ops Q rest (a.put o.dst (.tuple #[.bool true, .agg #[.int .i64 x, .int .i64 y], .int .i64 c])) w') : wpList P ops Q (o :: rest) a w := by
  refine wpList_next_at hg it hop hit encP2_inj cnt Done h hDone ?_
  rintro ⟨⟨x, y⟩, v⟩ w' cnt' hp h1 h2 h3 h4 h5
  obtain ⟨c, rfl⟩ := hI _ hp
  exact hMore x y c w' cnt' hp h1 h2 h3 h4 h5
theorem RangeAt.cnt_le {κ : Type} {enc : κ → Value} {b r : Nat} {kv : List (κ × Value)} {cnt : Nat} {Done : κ → Prop} {w : World} (h : RangeAt enc b r kv cnt Done w) : cnt ≤ kv.length := by
  obtain ⟨es, clock, since, seen, c0, _, h2, _, _, _, _, _, rfl, _⟩ := h
  have := congrArg List.length h2
  simp at this
  rw [← this]
  exact Array.size_filter_le
theorem compM_len (sp : List Sp) (ex : List Rg) : ∀ (l : List Mp), (compM sp ex l).length ≤ l.length := by
  have hput : ∀ (kv : List ((Int × Int) × Value)) (a : Int × Int) (v : Value), (put kv a v).length ≤ kv.length + 1 := by
    intro kv a v
    have := congrArg List.length (put_keys a v kv)
    rw [List.length_map] at this
    rw [this]
    split <;> simp
  have hstep : ∀ (kv : List ((Int × Int) × Value)) (m : Mp), (cstep sp ex kv m).length ≤ kv.length + 1 := by
    intro kv m
    unfold cstep
    repeat' split
    all_goals first | exact hput _ _ _ | omega
  suffices ∀ (l : List Mp) (kv : List ((Int × Int) × Value)), (l.foldl (cstep sp ex) kv).length ≤ kv.length + l.length from fun l => by have := this l []; simpa [compM] using this
  intro l
  induction l with
  | nil => simp
  | cons m t ih =>
    intro kv
    have h1 := ih (cstep sp ex kv m)
    have h2 := hstep kv m
    simp only [List.foldl_cons, List.length_cons]
    omega
theorem Gath.step {kv : List ((Int × Int) × Value)} {vs : List T3} (h : Gath kv vs) {x y c : Int} (hp : ((x, y), Value.int .i64 c) ∈ kv) : Gath kv (vs ++ [⟨x, y, c⟩]) := by
  intro t ht
  rcases List.mem_append.1 ht with ht | ht
  · exact h t ht
  · simp at ht; subst ht; exact hp
end Go.Proofs.YtfeofhinpgodoaaGreatDoor

namespace Go.Proofs.YtfeofhinpgodoaaGreatDoor
open Go.RowKit Go.Shelf Go.Sort

/-- The pairs of data in memory. -/
def PairsPost (kv : List ((Int × Int) × Value)) (w : World) (e : Ending) (w' : World) : Prop :=
  ∃ A n c ys, e = .returned (.slice A n c) ∧ PairsOf kv ys ∧ RdT w' A n ys ∧ n ≤ 900000 ∧ (∀ b o, A = some ⟨b, o, none⟩ → w.heap.size ≤ b) ∧ RowKit.Below w.heap.size w w'
theorem own_iter {B r : Nat} {e : TypeId} {k : Nat} {v : Value} {n : Nat} {xs : List Value} {w w' : World} (h : w.ownsRow B e k v n xs) (hg : w.grownBy w' (some r)) (hr : r < B) : w'.ownsRow B e k v n xs :=
  h.kept (row := some r) hg (by
    cases hv : v.ownBlock with
    | none => simp
    | some q => have := (h.lt q hv).1; simp; omega)
/-- The loop's state. -/
def RngSt (B bm r : Nat) (kv : List ((Int × Int) × Value)) (w : World) (s : Value) (wr : World) : Prop :=
  ∃ m vs cn Done, wr.ownsRow B 36 3 s m (vs.flatMap encT) ∧ vs.length = m ∧ (m = 0 → s = .slice none 0 0) ∧ RangeAt encP2 bm r kv cn Done wr ∧ Gath kv vs ∧ (∀ k, Done k → ∃ t ∈ vs, (t.a, t.b) = k) ∧ m + cn ≤ kv.length ∧ RowKit.Below w.heap.size w wr ∧ B ≤ wr.heap.size

set_option maxRecDepth 100000 in
set_option maxHeartbeats 4000000 in
theorem pairs_any (v : Value) (sp : List Sp) (l : List Mp) (ex : List Rg) (w : World) (h : RdN w v sp l ex) (hG : Glob w) :
    Calls Tryz.prog 16 #[v] w (PairsPost (cmE sp l ex) w) := by
  obtain ⟨A1, A2, A3, n1, c1, n2, c2, n3, c3, rfl, h1, h2, h3, h4, h5⟩ := h
  obtain ⟨W0, hW0⟩ : ∃ W0, W0 = w.alloc (.cells #[.slice A1 n1 c1, .slice A2 n2 c2, .slice A3 n3 c3] 28) := ⟨_, rfl⟩
  have hb0 : RowKit.Below w.heap.size w W0 := by rw [hW0]; exact (RowKit.Below.refl _ _).alloc (Nat.le_refl _) _
  have b0 : W0.cell? ⟨w.heap.size, 0, none⟩ = some (.slice A1 n1 c1) := by rw [hW0]; go_simp
  have b1 : W0.cell? ⟨w.heap.size, 1, none⟩ = some (.slice A2 n2 c2) := by rw [hW0]; go_simp
  have b2 : W0.cell? ⟨w.heap.size, 2, none⟩ = some (.slice A3 n3 c3) := by rw [hW0]; go_simp
  have HLen := Lib.hid (show (cmE sp l ex).length ≤ 900000 by
    have a1 := compM_len (effS sp l ex) (effX sp l ex) (effM sp l ex)
    have a2 : (effM sp l ex).length ≤ l.length := by unfold effM; split <;> simp
    have a3 := h2.len
    unfold cmE; omega)
  have hR0 : RdN W0 (.agg #[.slice A1 n1 c1, .slice A2 n2 c2, .slice A3 n3 c3]) sp l ex := RdN.below ⟨A1, A2, A3, n1, c1, n2, c2, n3, c3, rfl, h1, h2, h3, h4, h5⟩ hb0
  have HB0 := Lib.hid hb0
  have HR := Lib.hid hR0; have HG := Lib.hid (hG.below hb0)
  clear h1 h2 h3 hG hb0 hR0 h4 h5
  have hu := Tryz.underlying62
  go_enter Tryz.func16, Tryz.ntmps16
  go_wp2_with fail
  rw [← hW0]
  clear hW0
  refine (valid_N _ sp l ex W0 HR.out HG.out).mono ?_
  rintro e w2 ⟨B1, B2, B3, m1, e1, m2, e2, m3, e3, rfl, hN, hb2⟩
  have HB2 := Lib.hid hb2
  have HN := Lib.hid hN
  clear hb2 hN b0 b1 b2
  go_wp2_with fail
  refine (comps_N _ _ _ _ w2 HN.out (HG.out.below HB2.out)).mono ?_
  rintro e w3 ⟨bm, rfl, hM, hlt, hb3⟩
  have HM := Lib.hid (show MapAt encP2 bm (cmE sp l ex) w3 from hM)
  have HB3 := Lib.hid (bthen HB0.out (bthen HB2.out hb3))
  have HI := Lib.hid (show IntV (cmE sp l ex) from compM_int _ _ _)
  have HND := Lib.hid (show ((cmE sp l ex).map (·.1)).Nodup from compM_nodup _ _ _)
  have hlt2 : w.heap.size ≤ bm := Nat.le_trans (Nat.le_trans HB0.out.size HB2.out.size) hlt
  obtain ⟨kv, hkv⟩ : ∃ kv, kv = cmE sp l ex := ⟨_, rfl⟩
  rw [← hkv] at HM HI HND HLen
  have HKV := Lib.hid hkv
  clear hM hb3 HB2 HN HG HR hkv hlt
  go_wp2_with (at_range; refine wpList_range_at rfl _ _ _ _ rfl Tryz.underlying60 rfl HM.out ?_; intro w5 cnt hra hb5 hz5)
  have HR5 := Lib.hid hra
  have HB5 := Lib.hid (bthen HB3.out hb5)
  have hsz3 := HB3.out.size
  clear hra hb5
  go_frame
  go_loopw [3] (fun s wr => Hid (RngSt w5.heap.size bm w3.heap.size kv w s wr)) (fun _ wr => wr.rangeLeft bm w3.heap.size)
  case atStart => exact ⟨0, [], cnt, fun _ => False, World.ownsRow_nil _ _ _ _, rfl, fun _ => rfl, HR5.out, fun t ht => by simp at ht, fun k hk => hk.elim, by have := HR5.out.cnt_le; omega, HB5.out, Nat.le_refl _⟩
  case round =>
    obtain ⟨m, vs, cn, Done, k1, k2, k3, k4, k5, k6, k7, k8, k9⟩ := hrel.out
    obtain ⟨wo, rfl⟩ : ∃ wo : World, wo = wr := ⟨_, rfl⟩
    have HO := Lib.hid k1; have HZ := Lib.hid k3; have HRo := Lib.hid k4; have HGa := Lib.hid k5; have HD := Lib.hid k6; have HBo := Lib.hid k8; have HVl := Lib.hid k2
    have hLn := HLen.out
    have hsz3' : w.heap.size ≤ wo.heap.size := k8.size
    clear k1 k3 k4 k5 k6 k8 HR5 HB5 hrel k2
    have hne : w3.heap.size < w5.heap.size := by omega
    go_wp2_with (first
      | (at_next; refine wpList_next_p2 rfl _ rfl rfl HI.out cn Done HRo.out (fun hd => ?_) (fun x y c w6 cn2 hp hra hlt hg hz hen => have HO6 := Lib.hid (own_iter HO.out hg hne); have HB6 := Lib.hid (HBo.out.grown hg hsz3' (fun r e => by cases e; exact hsz3)); have HRa := Lib.hid hra; have HGs := Lib.hid (HGa.out.step hp); ?_))
      | (at_builtin; refine wpList_append_t3 rfl _ _ rfl w5.heap.size _ m vs rfl ((HO6.out.alloc _).alloc _) ⟨wo.heap.size + 1, 0, none⟩ 1 1 [⟨x, y, c⟩] rfl (by exact litT _ _ _ _ _ _ (by simp [hz]) rfl (by omega) rfl) (by omega) (by simp; omega) ?_; intro v2 w7 hown hbel; have HO7 := Lib.hid hown; have HB7 := Lib.hid ((show RowKit.Below w5.heap.size w6 _ from (((RowKit.Below.refl _ _).alloc (by omega) _).alloc (by simp; omega) _)).trans hbel); clear hown hbel))
    · refine (sortGotT_any w5.heap.size m u3 vs wo HO.out HVl.out HZ.out k9 (by omega)).mono ?_
      rintro e w7 ⟨rfl, A2, c2, ys, rfl, hp, has, hrd, hb⟩
      have HP := Lib.hid (pairsOf_of HND.out HI.out HGa.out (fun p hp => HD.out p.1 (hd p hp)) (by rw [HVl.out]; omega) hp has)
      have HRd := Lib.hid hrd
      have HB7 := Lib.hid (HBo.out.trans (hb.mono (by omega)))
      clear hp has hrd hb
      go_wp2_with fail
      go_ret
      exact ⟨A2, m, c2, ys, rfl, by rw [← HKV.out]; exact HP.out, HRd.out, by omega, fun b o e => by subst e; have := (HO.out.lt b rfl).1; omega, HB7.out⟩
    · have hbm := HM.out.lt
      have HRA := Lib.hid (HRa.out.same (HB7.out.block bm (by omega)) (HB7.out.block w3.heap.size hne))
      have hs7 := HB7.out.size
      refine ⟨⟨m + 1, vs ++ [⟨x, y, c⟩], cn2, fun k => Done k ∨ k = (x, y), HO7.out, by simp [HVl.out], fun h => by omega, HRA.out, HGs.out, ?_, by omega, HB6.out.trans (HB7.out.mono (by omega)), by omega⟩, ?_⟩
      · rintro k (hk | rfl)
        · obtain ⟨t, ht, e⟩ := HD.out k hk
          exact ⟨t, List.mem_append_left _ ht, e⟩
        · exact ⟨⟨x, y, c⟩, by simp, rfl⟩
      · rw [HRA.out.left_eq, HRo.out.left_eq]; exact hlt
end Go.Proofs.YtfeofhinpgodoaaGreatDoor

namespace Go.Proofs.YtfeofhinpgodoaaGreatDoor
open Go.RowKit Go.Shelf

theorem RdT.elt {w : World} {b o n i : Nat} {xs : List T3} (h : RdT w (some ⟨b, o, none⟩) n xs) (hi : i < n) :
    ∃ t : T3, Hid (xs[i]? = some t) ∧ w.cell? ⟨b, o + i * 3, none⟩ = some (.int .i64 t.a) ∧ w.cell? ⟨b, o + i * 3 + 1, none⟩ = some (.int .i64 t.b) ∧ w.cell? ⟨b, o + i * 3 + 2, none⟩ = some (.int .i64 t.c) := by
  obtain ⟨b', o', e, hc⟩ := h.cells (by omega)
  cases e
  have hl : i < xs.length := by rw [h.len]; exact hi
  exact ⟨xs[i], List.getElem?_eq_getElem hl, hc i hl 0 _ rfl, hc i hl 1 _ rfl, hc i hl 2 _ rfl⟩

set_option maxRecDepth 100000 in
set_option maxHeartbeats 2000000 in
theorem indexT_any (A : Option Addr) (n c : Nat) (l : List T3) (C : Nat) (x : Int) (w : World) (hR : RdT w A n l) (hC : w.cell? ⟨C, 0, none⟩ = some (.int .i64 x)) :
    Calls Tryz.prog 59 #[.slice A n c, .func (.func 37) #[] #[.pointer (some ⟨C, 0, none⟩)]] w (IdxPost (∃ t ∈ l, t.c = x) w) := by
  have hn := hR.bd
  have HL := Lib.hid hR.len
  have HR := Lib.hid hR
  have HC := Lib.hid hC
  have he' : ∀ args w, (callFunc 37 args).run Tryz.prog w = .ok (.enter 37 args) w := enters_of Tryz.func37 (by kernel_rfl) rfl
  clear hR hC
  have HF : Hid (∀ (t : T3) (W : World), Below w.heap.size w W → Calls Tryz.prog 37 #[.agg #[.int .i64 t.a, .int .i64 t.b, .int .i64 t.c], .pointer (some ⟨C, 0, none⟩)] W fun e w' => e = .returned (.bool (t.c == x)) ∧ Below W.heap.size W w') := by
    intro t W hb
    have hc := bcel hb HC.out
    have hc2 := bcel (ba W (.cells #[.int .i64 t.a, .int .i64 t.b, .int .i64 t.c] 36)) hc
    go_enter Tryz.func37, Tryz.ntmps37
    go_wp2_with fail
    go_ret
    exact ⟨rfl, by repeat (first | exact Below.refl _ _ | refine Below.alloc ?_ (by first | exact Nat.le_refl _ | (simp; done) | (simp; omega)) _ | refine Below.drew ?_)⟩
  go_enter Tryz.func59, Tryz.ntmps59
  go_wp2_with fail
  go_loopw [8] (fun r wr => ∃ k : Nat, k ≤ n ∧ r = .int .i64 (k : Int) ∧ Hid (Below w.heap.size w wr) ∧ Hid (∀ (i : Nat) (t : T3), i < k → l[i]? = some t → t.c ≠ x)) (fun r _ => n - (intOf r).toNat)
  case atStart => exact ⟨0, by omega, by go_num, Below.refl _ _, fun i m h => by omega⟩
  case round =>
    obtain ⟨k, hk, rfl, HB, HP⟩ := hrel
    obtain ⟨wo, rfl⟩ : ∃ wo : World, wo = wr := ⟨_, rfl⟩
    by_cases hlt : k < n
    · obtain ⟨b, o, rfl⟩ := HR.out.addr (by omega)
      obtain ⟨t, hm, c0, c1, c2⟩ := RdT.elt (HR.out.below HB.out) hlt
      have HM := Lib.hid (show l[k]? = some t from hm.out)
      clear hm
      have hlt' : (k : Int) < (n : Int) := by omega
      go_wp2_with fail
      refine (HF.out t wo HB.out).mono ?_
      rintro e w1 ⟨rfl, hb⟩
      have HB1 := Lib.hid (bthen HB.out hb)
      clear hb
      cases hpm : (t.c == x)
      · have H0 := Lib.hid (show t.c ≠ x from beq_eq_false_iff_ne.1 hpm)
        clear hpm
        go_wp2_with fail
        go_roundw
        case rel => exact ⟨k + 1, by omega, by go_num, HB1.out, fun i u hi hu => by
          rcases Nat.lt_succ_iff_lt_or_eq.1 hi with h | rfl
          · exact HP.out i u h hu
          · rw [HM.out] at hu; cases hu; exact H0.out⟩
        case measure => simp [intOf]; omega
      · have H0 := Lib.hid (show ∃ t ∈ l, t.c = x from ⟨t, List.mem_of_getElem? HM.out, beq_iff_eq.1 hpm⟩)
        clear hpm
        go_wp2_with fail
        go_ret
        exact ⟨k, rfl, ⟨fun _ => H0.out, fun _ => by omega⟩, HB1.out⟩
    · have e : k = n := by omega
      subst e
      have hlt' : ¬ (k : Int) < (k : Int) := by omega
      have H0 := Lib.hid (show ¬ ∃ t ∈ l, t.c = x from fun ⟨t, ht, e⟩ => by
        obtain ⟨i, hi⟩ := List.getElem?_of_mem ht
        exact HP.out i t (by rw [← HL.out]; exact (List.getElem?_eq_some_iff.1 hi).1) hi e)
      go_wp2_with fail
      go_ret
      exact ⟨-1, rfl, ⟨fun h => by omega, fun h => absurd h H0.out⟩, HB.out⟩

set_option maxHeartbeats 1000000 in
theorem containsT_any (A : Option Addr) (n c : Nat) (l : List T3) (C : Nat) (x : Int) (w : World) (hR : RdT w A n l) (hC : w.cell? ⟨C, 0, none⟩ = some (.int .i64 x)) :
    Calls Tryz.prog 36 #[.slice A n c, .func (.func 37) #[] #[.pointer (some ⟨C, 0, none⟩)]] w (YesPost (∃ t ∈ l, t.c = x) w) := by
  have HR := Lib.hid hR; have HC := Lib.hid hC
  clear hR hC
  go_enter Tryz.func36, Tryz.ntmps36
  go_wp2_with fail
  refine (indexT_any A n c l C x w HR.out HC.out).mono ?_
  rintro e w1 ⟨i, rfl, hi, hb⟩
  have HI := Lib.hid (show decide (0 ≤ i) = true ↔ ∃ t ∈ l, t.c = x by rw [decide_eq_true_iff]; exact hi)
  clear hi
  go_wp2_with fail
  go_ret
  exact ⟨_, rfl, HI.out, hb⟩

/-- Is c a primary composite? -/
def IsPrim (kv : List ((Int × Int) × Value)) (c : Int) : Prop := 4 ≤ kindF c ∨ ∃ a b, look kv (a, b) = some (.int .i64 c)
set_option maxRecDepth 100000 in
set_option maxHeartbeats 2000000 in
theorem primary_any (v : Value) (sp : List Sp) (l : List Mp) (ex : List Rg) (c : Int) (w : World) (h : RdN w v sp l ex) (hG : Glob w) :
    Calls Tryz.prog 14 #[v, .int .i64 c] w (YesPost (IsPrim (cmE sp l ex) c) w) := by
  obtain ⟨A1, A2, A3, n1, c1, n2, c2, n3, c3, rfl, h1, h2, h3, h4, h5⟩ := h
  obtain ⟨W0, hW0⟩ : ∃ W0, W0 = (w.alloc (.cells #[.slice A1 n1 c1, .slice A2 n2 c2, .slice A3 n3 c3] 28)).alloc (.cells #[.int .i64 c] 3) := ⟨_, rfl⟩
  have hb0 : Below w.heap.size w W0 := by rw [hW0]; repeat (first | exact Below.refl _ _ | refine Below.alloc ?_ (by first | exact Nat.le_refl _ | (simp; done) | (simp; omega)) _)
  have b0 : W0.cell? ⟨w.heap.size, 0, none⟩ = some (.slice A1 n1 c1) := by rw [hW0]; go_simp
  have b1 : W0.cell? ⟨w.heap.size, 1, none⟩ = some (.slice A2 n2 c2) := by rw [hW0]; go_simp
  have b2 : W0.cell? ⟨w.heap.size, 2, none⟩ = some (.slice A3 n3 c3) := by rw [hW0]; go_simp
  have b3 : W0.cell? ⟨w.heap.size + 1, 0, none⟩ = some (.int .i64 c) := by rw [hW0]; go_simp
  have hR0 : RdN W0 (.agg #[.slice A1 n1 c1, .slice A2 n2 c2, .slice A3 n3 c3]) sp l ex := RdN.below ⟨A1, A2, A3, n1, c1, n2, c2, n3, c3, rfl, h1, h2, h3, h4, h5⟩ hb0
  have HB0 := Lib.hid hb0
  have HR := Lib.hid hR0; have HG := Lib.hid (hG.below hb0)
  clear h1 h2 h3 hG hb0 hR0 h4 h5
  go_enter Tryz.func14, Tryz.ntmps14
  go_wp2_with fail
  rw [← hW0]
  clear hW0
  refine (kind_any c _).mono ?_
  rintro e w1 ⟨rfl, hb⟩
  have d0 := bcel hb b0; have d1 := bcel hb b1; have d2 := bcel hb b2; have d3 := bcel hb b3
  have HB1 := Lib.hid (bthen HB0.out hb)
  have HR1 := Lib.hid (HR.out.below hb); have HG1 := Lib.hid (HG.out.below hb)
  clear hb b0 b1 b2 b3 HR HG
  by_cases hk : 4 ≤ kindF c
  · have HK := Lib.hid hk
    have hd : decide (4 ≤ kindF c) = true := decide_eq_true hk
    go_wp2_with fail
    go_ret
    exact ⟨true, rfl, ⟨fun _ => .inl HK.out, fun _ => rfl⟩, HB1.out⟩
  · have HK := Lib.hid hk
    have hd : decide (4 ≤ kindF c) = false := decide_eq_false hk
    go_wp2_with fail
    refine (pairs_any _ sp l ex w1 HR1.out HG1.out).mono ?_
    rintro e w2 ⟨A, n, c', ys, rfl, hP, hRd, hn, -, hb2⟩
    have HP := Lib.hid hP; have HRd := Lib.hid hRd
    have e3 := bcel hb2 d3
    have HB2 := Lib.hid (bthen HB1.out hb2)
    clear hP hRd hb2 hn
    go_wp2_with fail
    refine (containsT_any A n c' ys (w.heap.size + 1) c w2 HRd.out e3).mono ?_
    rintro e w3 ⟨r, rfl, hr, hb3⟩
    have HB3 := Lib.hid (bthen HB2.out hb3)
    have HRr := Lib.hid (show r = true ↔ IsPrim (cmE sp l ex) c by
      rw [hr]
      constructor
      · rintro ⟨t, ht, rfl⟩; exact .inr ⟨t.a, t.b, (HP.out.2 t).1 ht⟩
      · rintro (h | ⟨a, b, h⟩)
        · exact absurd HK.out (by omega)
        · exact ⟨⟨a, b, c⟩, (HP.out.2 ⟨a, b, c⟩).2 h, rfl⟩)
    clear hr hb3
    go_wp2_with fail
    go_ret
    exact ⟨r, rfl, HRr.out, HB3.out⟩
end Go.Proofs.YtfeofhinpgodoaaGreatDoor

namespace Go.Proofs.YtfeofhinpgodoaaGreatDoor
open Go.RowKit Go.Shelf

/-- The ranges of which Second is made. -/
def secL (ys : List T3) : List Rg := [⟨4449, 4469⟩, ⟨4520, 4546⟩] ++ ys.map fun t => ⟨t.b, t.b⟩

theorem wpList_append_rgs2 {ops : Array Oper} {rest : List Oper} {o : Oper} {a : Act} {Q : Exit → Act → World → Prop} {w : World} (hgd : o.guard = none) (s x : Operand)
    (ho : o.op = .call { callee := .builtin .append, args := #[s, x], argTypes := #[24, 24] })
    (base : Nat) (v : Value) (n : Nat) (xs : List Rg) (hs : a.eval s = v) (hown : w.ownsRow base 77 2 v n (xs.flatMap encRg))
    (ad : Addr) (m c : Nat) (news : List Rg) (hx : a.eval x = .slice (some ad) m c) (hR : RdRg w (some ad) m news) (hn : n + m ≤ 1000000000) (hbase : base ≤ w.heap.size)
    (h : ∀ v' w', w'.ownsRow base 77 2 v' (n + m) ((xs ++ news).flatMap encRg) → w.grownBy w' v.ownBlock → (v'.ownBlock = v.ownBlock ∨ v'.ownBlock = some w.heap.size) → wpList Tryz.prog ops Q rest (a.put o.dst v') w') :
    wpList Tryz.prog ops Q (o :: rest) a w := by
  obtain ⟨i0, hi, hz0, hz1, hz2⟩ := info_parts infoRg
  have hl : (news.flatMap encRg).length = m * 2 := by rw [flat_len encRg_len, hR.len]
  refine wpList_append_own_at w hgd s x 24 ho base 77 i0 (.agg #[.int .i64 0, .int .i64 0]) 2 16 Tryz.underlying24 hi hz0 hz1 hz2 rfl (by decide) v n _ hs hown ad m c (news.flatMap encRg) hx hl ?_ (fun u hu => flat_two hu) (by simp only [maxLen]; omega) (by omega) hbase ?_
  · intro j u hu
    have hj : j < news.length * 2 := by have := (List.getElem?_eq_some_iff.1 hu).1; rwa [flat_len encRg_len] at this
    obtain ⟨b, off, e, hc⟩ := hR.cells (by have := hR.len; omega)
    cases e
    have hi2 : j / 2 < news.length := by omega
    have e2 := flat_at encRg_len news (j / 2) (j % 2) hi2 (by omega)
    have e3 : j / 2 * 2 + j % 2 = j := by omega
    rw [e3] at e2
    rw [e2] at hu
    have := hc (j / 2) hi2 (j % 2) u hu
    rw [Addr.add_lit]
    rwa [Nat.add_assoc, e3] at this
  · intro v' w' h1 h2 _ h4
    exact h v' w' (by rw [List.flatMap_append]; exact h1) h2 h4
/-- What an appending loop keeps: the blocks from S to T, and a row of its own beside them. -/
structure Apart (S T : Nat) (W W' : World) (s : Value) : Prop where
  blk : ∀ b, S ≤ b → b < T → W'.heap[b]? = W.heap[b]?
  own : ∀ g, s.ownBlock = some g → g < S ∨ T ≤ g
  sz : T ≤ W'.heap.size
theorem Apart.rd {α : Type} {enc : α → List Value} {k : Nat} {S T : Nat} {W W' : World} {s : Value} (h : Apart S T W W' s) {b o n : Nat} {xs : List α} (hR : Rd enc k W (some ⟨b, o, none⟩) n xs) (hS : S ≤ b) (hT : W.heap.size ≤ T) : Rd enc k W' (some ⟨b, o, none⟩) n xs :=
  ⟨hR.len, hR.le, fun hp => by
    obtain ⟨b', o', e, hc⟩ := hR.cells hp
    cases e
    refine ⟨b, o, rfl, fun i hi j u hu => ?_⟩
    have hc := hc i hi j u hu
    rw [World.cell?_of_block (w := W) (h.blk b hS (Nat.lt_of_lt_of_le (World.block_lt_of_cell? W _ hc) hT))]
    exact hc⟩
theorem Apart.step {S T : Nat} {W W1 W2 W3 : World} {s s' : Value} (h : Apart S T W W1 s) (hb : Below W1.heap.size W1 W2) (hg : W2.grownBy W3 s.ownBlock) (ho : s'.ownBlock = s.ownBlock ∨ s'.ownBlock = some W2.heap.size) : Apart S T W W3 s' where
  blk b hS hT := by
    have h1 := h.sz
    have h2 := hb.size
    rw [hg.block b (by omega) (fun e => by have := h.own b e.symm; omega), hb.block b (by omega), h.blk b hS hT]
  own g hgs := by
    have h1 := h.sz
    have h2 := hb.size
    rcases ho with e | e
    · exact h.own g (by rw [← e]; exact hgs)
    · rw [e] at hgs; cases hgs; omega
  sz := by have h1 := h.sz; have h2 := hb.size; have h3 := hg.size; omega
theorem secL_snoc (ys : List T3) (t : T3) : secL (ys ++ [t]) = secL ys ++ [⟨t.b, t.b⟩] := by simp [secL]

set_option maxRecDepth 100000 in
set_option maxHeartbeats 4000000 in
theorem second_any (v : Value) (sp : List Sp) (l : List Mp) (ex : List Rg) (w : World) (h : RdN w v sp l ex) (hG : Glob w) :
    Calls Tryz.prog 29 #[v] w (SetPost (fun o => ∃ ys, PairsOf (cmE sp l ex) ys ∧ IsSet (secL ys) o) w) := by
  obtain ⟨A1, A2, A3, n1, c1, n2, c2, n3, c3, rfl, h1, h2, h3, h4, h5⟩ := h
  obtain ⟨W0, hW0⟩ : ∃ W0, W0 = (w.alloc (.cells #[.slice A1 n1 c1, .slice A2 n2 c2, .slice A3 n3 c3] 28)).alloc (.cells #[.slice none 0 0] 26) := ⟨_, rfl⟩
  have hb0 : Below w.heap.size w W0 := by rw [hW0]; repeat (first | exact Below.refl _ _ | refine Below.alloc ?_ (by first | exact Nat.le_refl _ | (simp; done) | (simp; omega)) _)
  have b0 : W0.cell? ⟨w.heap.size, 0, none⟩ = some (.slice A1 n1 c1) := by rw [hW0]; go_simp
  have b1 : W0.cell? ⟨w.heap.size, 1, none⟩ = some (.slice A2 n2 c2) := by rw [hW0]; go_simp
  have b2 : W0.cell? ⟨w.heap.size, 2, none⟩ = some (.slice A3 n3 c3) := by rw [hW0]; go_simp
  have hR0 : RdN W0 (.agg #[.slice A1 n1 c1, .slice A2 n2 c2, .slice A3 n3 c3]) sp l ex := RdN.below ⟨A1, A2, A3, n1, c1, n2, c2, n3, c3, rfl, h1, h2, h3, h4, h5⟩ hb0
  have HB0 := Lib.hid hb0
  have HR := Lib.hid hR0; have HG := Lib.hid (hG.below hb0)
  clear h1 h2 h3 hG hb0 hR0 h4 h5
  go_enter Tryz.func29, Tryz.ntmps29
  go_wp2_with fail
  rw [← hW0]
  obtain ⟨W1, hW1⟩ : ∃ W1, W1 = W0.alloc (.cells #[.int .i64 4449, .int .i64 4469, .int .i64 4520, .int .i64 4546] 77) := ⟨_, rfl⟩
  have hs0 : W0.heap.size = w.heap.size + 1 + 1 := by rw [hW0]; simp
  have hb1 : Below W0.heap.size W0 W1 := by rw [hW1]; exact (Below.refl _ _).alloc (Nat.le_refl _) _
  have HO1 : Hid (W1.ownsRow W0.heap.size 77 2 (.slice (some ⟨w.heap.size + 1 + 1, 0, none⟩) 2 2) 2 ((secL []).flatMap encRg)) := by
    rw [hW1, ← hs0]
    exact World.ownsRow_lit (base := W0.heap.size) (e := 77) (size := 2) W0 #[.int .i64 4449, .int .i64 4469, .int .i64 4520, .int .i64 4546] 2 (Nat.le_refl _) (by decide) rfl
  have HB1 := Lib.hid (bthen HB0.out hb1)
  have HC0 : Hid (∀ off : Nat, W1.cell? ⟨w.heap.size + 1, off + 1, none⟩ = none) := by
    intro off
    rw [hb1.cell (p := ⟨w.heap.size + 1, off + 1, none⟩) (by rw [hs0]; exact Nat.lt_succ_self _), hW0]; go_simp
  have HC1 : Hid (W1.cell? ⟨w.heap.size + 1, 0, none⟩ = some (.slice none 0 0)) := by
    show _ = _
    rw [hb1.cell (p := ⟨w.heap.size + 1, 0, none⟩) (by rw [hs0]; exact Nat.lt_succ_self _), hW0]; go_simp
  have HF1 : Hid (W1.frozen? ⟨w.heap.size + 1, 0, none⟩ = false) := by
    show _ = _
    rw [hb1.frozen (p := ⟨w.heap.size + 1, 0, none⟩) (by rw [hs0]; exact Nat.lt_succ_self _), hW0]; go_simp
  rw [← hW1]
  have hB01 := hb1.size
  have hs1 : W1.heap.size = w.heap.size + 1 + 1 + 1 := by rw [hW1]; simp [hs0]
  have HR1 := Lib.hid (HR.out.below hb1); have HG1 := Lib.hid (HG.out.below hb1)
  clear hW0 hW1 hb1 b0 b1 b2 HR HG
  refine (pairs_any _ sp l ex W1 HR1.out HG1.out).mono ?_
  rintro e w2 ⟨A, n, c', ys, rfl, hP, hRd, hn, hfr, hb2⟩
  have HP := Lib.hid hP; have HRd := Lib.hid hRd; have HL := Lib.hid hRd.len
  have HB2 := Lib.hid hb2
  have HO2 := Lib.hid (own_below HO1.out hb2)
  have hs2 := hb2.size
  clear hP hRd hb2
  go_wp2_with fail
  go_loopw [3, 12] (fun s r wr => ∃ k : Nat, k ≤ n ∧ r = .int .i64 (k : Int) ∧ Hid (wr.ownsRow W0.heap.size 77 2 s (2 + k) ((secL (ys.take k)).flatMap encRg)) ∧ Hid (Below W0.heap.size W1 wr) ∧ Hid (Apart W1.heap.size w2.heap.size w2 wr s)) (fun _ r _ => n - (intOf r).toNat)
  case atStart => exact ⟨0, by omega, by go_num, HO2.out, HB2.out.mono hB01, ⟨fun _ _ _ => rfl, fun g hg => .inl (by cases hg; show w.heap.size + 1 + 1 < _; omega), Nat.le_refl _⟩⟩
  case round =>
    obtain ⟨k, hk, rfl, HO, HB, HA⟩ := hrel
    obtain ⟨wo, rfl⟩ : ∃ wo : World, wo = wr := ⟨_, rfl⟩
    have hso := HB.out.size
    by_cases hlt : k < n
    · obtain ⟨b, o, rfl⟩ := HRd.out.addr (by omega)
      obtain ⟨t, hm, q0, q1, q2⟩ := RdT.elt (HA.out.rd HRd.out (hfr b o rfl) (Nat.le_refl _)) hlt
      have HM := Lib.hid (show secL (ys.take (k + 1)) = secL (ys.take k) ++ [⟨t.b, t.b⟩] by rw [List.take_add_one, hm.out]; exact secL_snoc _ t)
      clear hm
      have hlt' : (k : Int) < (n : Int) := by omega
      go_wp2_with (at_builtin; refine wpList_append_rgs2 rfl _ _ rfl W0.heap.size _ (2 + k) (secL (ys.take k)) rfl ((HO.out.alloc _).alloc _) ⟨wo.heap.size + 1, 0, none⟩ 1 1 [⟨t.b, t.b⟩] rfl (by exact litRg _ _ _ _ _ _ (by simp) rfl (by omega) rfl) (by omega) (by simp; omega) ?_; intro v2 w3 hown hgr hob; have HO3 := Lib.hid hown; have HA3 := Lib.hid (HA.out.step (by repeat (first | exact RowKit.Below.refl _ _ | refine RowKit.Below.alloc ?_ (by first | exact Nat.le_refl _ | (simp; done) | (simp; omega)) _ | refine RowKit.Below.drew ?_)) hgr hob); have HB3 := Lib.hid (HB.out.trans ((show RowKit.Below W0.heap.size wo _ from (((RowKit.Below.refl _ _).alloc (by omega) _).alloc (by simp; omega) _)).trans (below_of_grown (S0 := W0.heap.size) (by simp; omega) hgr (fun r e => (HO.out.lt r e).1)))); clear hown hgr hob)
      go_roundw
      case rel => exact ⟨k + 1, by omega, by go_num, by rw [HM.out]; exact HO3.out, HB3.out, HA3.out⟩
      case measure => simp [intOf]; omega
    · have e : k = n := by omega
      subst e
      have hlt' : ¬ (k : Int) < (k : Int) := by omega
      have HT := Lib.hid (show ys.take k = ys from List.take_of_length_le (by rw [HL.out]; exact Nat.le_refl _))
      obtain ⟨A2, c2, e2, hrd2⟩ := own_rd encRg_len (by omega) HO.out (by omega)
      subst e2
      rw [HT.out] at hrd2
      have HR2 := Lib.hid hrd2
      clear hrd2 HA
      go_wp2_with fail
      refine (makeSet_any A2 (2 + k) c2 _ wo HR2.out (by omega)).mono ?_
      rintro e w3 ⟨A3, n3', c3', o, hrd3, hIS, rfl, hb3⟩
      have HI := Lib.hid hIS; have HR3 := Lib.hid hrd3
      have hbf : Below W0.heap.size W1 w3 := HB.out.trans (hb3.mono (by omega))
      have hcr : w3.cell? ⟨w.heap.size + 1, 0, none⟩ = some (.slice none 0 0) := (hbf.cell (p := ⟨w.heap.size + 1, 0, none⟩) (by rw [hs0]; exact Nat.lt_succ_self _)).trans HC1.out
      have hfr2 : w3.frozen? ⟨w.heap.size + 1, 0, none⟩ = false := (hbf.frozen (p := ⟨w.heap.size + 1, 0, none⟩) (by rw [hs0]; exact Nat.lt_succ_self _)).trans HF1.out
      have HN0 : Hid (∀ off : Nat, w3.cell? ⟨w.heap.size + 1, off + 1, none⟩ = none) := fun off => (hbf.cell (p := ⟨w.heap.size + 1, off + 1, none⟩) (by rw [hs0]; exact Nat.lt_succ_self _)).trans (HC0.out off)
      have HBF := Lib.hid (show Below w.heap.size w w3 from HB1.out.trans (hbf.mono (by omega)))
      clear hrd3 hIS hb3 hbf HR2
      go_wp2_with fail
      have hc7 : (w3.setCell ⟨w.heap.size + 1, 0, none⟩ (.slice A3 n3' c3')).cell? ⟨w.heap.size + 1, 0, none⟩ = some (.slice A3 n3' c3') := by go_simp
      have hB7 : Below w.heap.size w (w3.setCell ⟨w.heap.size + 1, 0, none⟩ (.slice A3 n3' c3')) := RowKit.Below.setCell HBF.out (by simp) _
      have hR7 : RdRg (w3.setCell ⟨w.heap.size + 1, 0, none⟩ (.slice A3 n3' c3')) A3 n3' o := by
        refine ⟨HR3.out.len, HR3.out.le, fun hp => ?_⟩
        obtain ⟨b, off, e, hc⟩ := HR3.out.cells hp
        refine ⟨b, off, e, fun i hi j u hu => ?_⟩
        have hne : b ≠ w.heap.size + 1 := by
          rintro rfl
          have h0 : 0 < o.length := by rw [HR3.out.len]; exact hp
          have := hc 0 h0 1 (.int .i64 o[0].hi) rfl
          rw [show off + 0 * 2 + 1 = off + 1 by omega, HN0.out off] at this
          cases this
        rw [World.cell?_of_block (w := w3) (Below.heap_setCell w3 ⟨w.heap.size + 1, 0, none⟩ _ b hne)]
        exact hc i hi j u hu
      generalize w3.setCell ⟨w.heap.size + 1, 0, none⟩ (.slice A3 n3' c3') = w7 at *
      refine bodyPost_ret (v := .agg #[.slice A3 n3' c3']) (by simp [results, Tryz.results29, go_sem, hc7]) rfl ?_
      exact ⟨A3, n3', c3', o, hR7, ⟨ys, HP.out, HI.out⟩, rfl, hB7⟩
end Go.Proofs.YtfeofhinpgodoaaGreatDoor

namespace Go.Proofs.YtfeofhinpgodoaaGreatDoor
open Go.RowKit Go.Shelf

/-- The state of composing: what has been put out, the index of the last starter, the class of the last element. -/
structure TS where
  out : List Int
  last : Int
  cl : Int
/-- Is the next element, of class own, kept from the last starter? -/
def TS.blk (s : TS) (own : Int) : Bool := decide (s.last < 0) || (decide (s.last < (s.out.length : Int) - 1) && decide (own ≤ s.cl))
def tput (sp : List Sp) (s : TS) (c : Int) : TS := ⟨s.out ++ [c], if cls sp c = 0 then s.out.length else s.last, cls sp c⟩
def tstep (sp : List Sp) (kv : List ((Int × Int) × Value)) (s : TS) (c : Int) : TS :=
  if s.blk (cls sp c) then tput sp s c
  else match pairI kv (s.out.getD s.last.toNat 0) c with
    | some p => ⟨s.out.set s.last.toNat p, s.last, s.cl⟩
    | none => tput sp s c
def textS (sp : List Sp) (kv : List ((Int × Int) × Value)) (t : List Int) : TS := t.foldl (tstep sp kv) ⟨[], -1, 0⟩
def textM (sp : List Sp) (kv : List ((Int × Int) × Value)) (t : List Int) : List Int := (textS sp kv t).out
theorem textS_step {sp : List Sp} {kv : List ((Int × Int) × Value)} {t : List Int} {k : Nat} {c : Int} (h : t[k]? = some c) : textS sp kv (t.take (k + 1)) = tstep sp kv (textS sp kv (t.take k)) c := by
  rw [List.take_add_one, h]; simp [textS]
/-- The last starter lies within. -/
def TS.ok (s : TS) : Prop := s.last = -1 ∨ ∃ j : Nat, s.last = (j : Int) ∧ j < s.out.length
theorem tput_ok {sp : List Sp} {s : TS} {c : Int} (h : s.ok) : (tput sp s c).ok := by
  unfold tput TS.ok
  by_cases h0 : cls sp c = 0
  · rw [if_pos h0]; exact .inr ⟨s.out.length, rfl, by simp⟩
  · rw [if_neg h0]
    rcases h with h | ⟨j, h1, h2⟩
    · exact .inl h
    · exact .inr ⟨j, h1, by simp; omega⟩
theorem tstep_ok {sp : List Sp} {kv : List ((Int × Int) × Value)} {s : TS} {c : Int} (h : s.ok) : (tstep sp kv s c).ok := by
  unfold tstep
  split
  · exact tput_ok h
  · split
    · rcases h with h | ⟨j, h1, h2⟩
      · exact .inl h
      · exact .inr ⟨j, h1, by simpa using h2⟩
    · exact tput_ok h
theorem textS_ok (sp : List Sp) (kv : List ((Int × Int) × Value)) (t : List Int) : (textS sp kv t).ok := by
  suffices ∀ (t : List Int) (s : TS), s.ok → (t.foldl (tstep sp kv) s).ok from this t _ (.inl rfl)
  intro t
  induction t with
  | nil => exact fun s h => h
  | cons c t ih => exact fun s h => ih _ (tstep_ok h)
theorem tstep_len {sp : List Sp} {kv : List ((Int × Int) × Value)} {s : TS} {c : Int} : (tstep sp kv s c).out.length ≤ s.out.length + 1 := by
  unfold tstep
  split
  · simp [tput]
  · split
    · simp
    · simp [tput]
theorem textM_len (sp : List Sp) (kv : List ((Int × Int) × Value)) (t : List Int) : (textM sp kv t).length ≤ t.length := by
  suffices ∀ (t : List Int) (s : TS), (t.foldl (tstep sp kv) s).out.length ≤ s.out.length + t.length by have := this t ⟨[], -1, 0⟩; simpa [textM, textS] using this
  intro t
  induction t with
  | nil => simp
  | cons c t ih =>
    intro s
    have h1 := ih (tstep sp kv s c)
    have h2 := tstep_len (sp := sp) (kv := kv) (s := s) (c := c)
    simp only [List.foldl_cons, List.length_cons]
    omega
theorem flatI (xs : List Int) : xs.flatMap encI = xs.map (Value.int .i64) := by
  induction xs with
  | nil => rfl
  | cons x t ih => rw [List.flatMap_cons, ih]; rfl
theorem flatI_set (xs : List Int) (j : Nat) (p : Int) : (xs.flatMap encI).set j (.int .i64 p) = (xs.set j p).flatMap encI := by
  rw [flatI, flatI, List.map_set]

/-- What valid hands back may be read where the argument may. -/
def ValPost2 (w0 : World) (sp : List Sp) (l : List Mp) (ex : List Rg) (w : World) (e : Ending) (w' : World) : Prop :=
  ∃ A1 A2 A3 n1 c1 n2 c2 n3 c3, e = .returned (.agg #[.slice A1 n1 c1, .slice A2 n2 c2, .slice A3 n3 c3]) ∧ RdN w0 (.agg #[.slice A1 n1 c1, .slice A2 n2 c2, .slice A3 n3 c3]) (effS sp l ex) (effM sp l ex) (effX sp l ex) ∧ RdSp w0 A1 n1 (effS sp l ex) ∧ Below w.heap.size w w'
theorem valid_N2 (w0 : World) (v : Value) (sp : List Sp) (l : List Mp) (ex : List Rg) (w : World) (h : RdN w0 v sp l ex) (hb : Below w0.heap.size w0 w) (hG : Glob w) :
    Calls Tryz.prog 33 #[v] w (ValPost2 w0 sp l ex w) := by
  have h' := h
  obtain ⟨A1, A2, A3, n1, c1, n2, c2, n3, c3, rfl, h1, h2, h3, h4, h5⟩ := h'
  refine (cvalid_any A1 A2 A3 n1 c1 n2 c2 n3 c3 sp l ex w (h1.below hb) (h2.below hb) (h3.below hb) h4 hG).mono ?_
  rintro e w' ⟨⟨hE, rfl⟩ | ⟨hE, rfl⟩, hb'⟩
  · exact ⟨A1, A2, A3, n1, c1, n2, c2, n3, c3, rfl, by rw [effS, effM, effX, if_pos hE, if_pos hE, if_pos hE]; exact h, by rw [effS, if_pos hE]; exact h1, hb'⟩
  · exact ⟨none, none, none, 0, 0, 0, 0, 0, 0, rfl, by rw [effS, effM, effX, if_neg hE, if_neg hE, if_neg hE]; exact rdN_nil w0, by rw [effS, if_neg hE]; exact Rd.nil, hb'⟩
end Go.Proofs.YtfeofhinpgodoaaGreatDoor

namespace Go.Proofs.YtfeofhinpgodoaaGreatDoor
open Go.RowKit Go.Shelf

theorem below_of_grown' {S0 : Nat} {W W' : World} {row : Option Nat} (hS : S0 ≤ W.heap.size) (hg : W.grownBy W' row) (hr : ∀ r, row = some r → S0 ≤ r) : Below S0 W W' := (Below.refl S0 W).grown hg hS hr
theorem wpList_put_int {ops : Array Oper} {rest : List Oper} {o : Oper} {a : Act} {Q : Exit → Act → World → Prop} {w : World} (hgd : o.guard = none) (s x : Operand)
    (ho : o.op = .call { callee := .builtin .append, args := #[s, x], argTypes := #[38, 38] }) (g m n : Nat) (xs : List Int) (hs : a.eval s = .slice (some ⟨g, 0, none⟩) m n)
    (hown : w.ownsRow g 3 1 (.slice (some ⟨g, 0, none⟩) m n) m (xs.flatMap encI)) (b : Nat) (hx : a.eval x = .slice (some ⟨b, 0, none⟩) 1 1) (c : Int) (hc : w.cell? ⟨b, 0, none⟩ = some (.int .i64 c)) (hn : m + 1 ≤ n)
    (h : ∀ w', w'.ownsRow g 3 1 (.slice (some ⟨g, 0, none⟩) (m + 1) n) (m + 1) ((xs ++ [c]).flatMap encI) → w.grownBy w' (some g) → wpList Tryz.prog ops Q rest (a.put o.dst (.slice (some ⟨g, 0, none⟩) (m + 1) n)) w') :
    wpList Tryz.prog ops Q (o :: rest) a w := by
  obtain ⟨i0, hi, hz0, hz1, hz2⟩ := info_parts infoI
  refine wpList_append_fits w hgd s x 38 ho g 3 i0 1 Tryz.underlying38 hi hz1 g m n _ hs hown ⟨b, 0, none⟩ 1 1 [.int .i64 c] hx rfl (fun j u hu => ?_) (fun u hu => by simp at hu; subst hu; rfl) hn (fun w' h1 h2 => h w' (by rw [List.flatMap_append]; exact h1) h2)
  cases j with
  | zero => simp at hu; subst hu; simpa [Addr.add_lit] using hc
  | succ j => simp at hu
/-- The loop's state in memory. -/
def TxtSt (Bn bm g n : Nat) (B1 : Option Addr) (m1 e1 : Nat) (kv : List ((Int × Int) × Value)) (w : World) (o : List Int) (m : Nat) (wr : World) : Prop :=
  wr.ownsRow g 3 1 (.slice (some ⟨g, 0, none⟩) m n) m (o.flatMap encI) ∧ MapAt encP2 bm kv wr ∧ wr.cell? ⟨Bn, 0, none⟩ = some (.slice B1 m1 e1) ∧ Below w.heap.size w wr
theorem txt_put' {Bn bm g n m m1 e1 : Nat} {B1 : Option Addr} {kv : List ((Int × Int) × Value)} {w w5 w9 : World} {o : List Int} (hM : MapAt encP2 bm kv w5) (hq : w5.cell? ⟨Bn, 0, none⟩ = some (.slice B1 m1 e1)) (hB : Below w.heap.size w w5) (hg : Bn ≠ g) (hbm : bm < g) (hw : w.heap.size ≤ g)
    (hown : w9.ownsRow g 3 1 (.slice (some ⟨g, 0, none⟩) m n) m (o.flatMap encI)) (hgr : w5.grownBy w9 (some g)) : TxtSt Bn bm g n B1 m1 e1 kv w o m w9 :=
  ⟨hown, hM.same (hgr.block bm hM.lt (fun e => by cases e; omega)), (World.cell?_of_block (w := w5) (hgr.block Bn (World.block_lt_of_cell? w5 _ hq) (fun e => hg (Option.some.inj e)))).trans hq, hB.trans (below_of_grown' hB.size hgr (fun r e => by cases e; exact hw))⟩
theorem txt_put {Bn bm g n m m1 e1 : Nat} {B1 : Option Addr} {kv : List ((Int × Int) × Value)} {w w5 w9 : World} {o : List Int} {ob : Obj} (hM : MapAt encP2 bm kv w5) (hq : w5.cell? ⟨Bn, 0, none⟩ = some (.slice B1 m1 e1)) (hB : Below w.heap.size w w5) (hg : Bn ≠ g) (hbm : bm < g) (hw : w.heap.size ≤ g)
    (hown : w9.ownsRow g 3 1 (.slice (some ⟨g, 0, none⟩) m n) m (o.flatMap encI)) (hgr : (w5.alloc ob).grownBy w9 (some g)) : TxtSt Bn bm g n B1 m1 e1 kv w o m w9 :=
  txt_put' (hM.below (ba _ _)) (bcel (ba _ _) hq) (bthen hB (ba _ _)) hg hbm hw hown hgr
def TxtPost (t : List Int) (w : World) (e : Ending) (w' : World) : Prop := ∃ A n c, e = .returned (.slice A n c) ∧ RdI w' A n t ∧ Below w.heap.size w w'

set_option maxRecDepth 100000 in
set_option maxHeartbeats 8000000 in
theorem text_any (v : Value) (sp : List Sp) (l : List Mp) (ex : List Rg) (A : Option Addr) (n c : Nat) (t : List Int) (w : World) (h : RdN w v sp l ex) (hT : RdI w A n t) (hn : n ≤ 1000000) (hG : Glob w) :
    Calls Tryz.prog 19 #[v, .slice A n c] w (TxtPost (textM (effS sp l ex) (cmE sp l ex) t) w) := by
  have h' := h
  obtain ⟨A1, A2, A3, n1, c1, n2, c2, n3, c3, rfl, h1, h2, h3, h4, h5⟩ := h'
  have HN := Lib.hid h
  obtain ⟨W0, hW0⟩ : ∃ W0, W0 = w.alloc (.cells #[.slice A1 n1 c1, .slice A2 n2 c2, .slice A3 n3 c3] 28) := ⟨_, rfl⟩
  have hb0 : Below w.heap.size w W0 := by rw [hW0]; exact (Below.refl _ _).alloc (Nat.le_refl _) _
  have b0 : W0.cell? ⟨w.heap.size, 0, none⟩ = some (.slice A1 n1 c1) := by rw [hW0]; go_simp
  have b1 : W0.cell? ⟨w.heap.size, 1, none⟩ = some (.slice A2 n2 c2) := by rw [hW0]; go_simp
  have b2 : W0.cell? ⟨w.heap.size, 2, none⟩ = some (.slice A3 n3 c3) := by rw [hW0]; go_simp
  have f0 : W0.frozen? ⟨w.heap.size, 0, none⟩ = false := by rw [hW0]; go_simp
  have f1 : W0.frozen? ⟨w.heap.size, 1, none⟩ = false := by rw [hW0]; go_simp
  have f2 : W0.frozen? ⟨w.heap.size, 2, none⟩ = false := by rw [hW0]; go_simp
  have hsz0 : w.heap.size < W0.heap.size := by rw [hW0]; simp
  have HB0 := Lib.hid hb0
  have HG := Lib.hid hG; have HT := Lib.hid hT; have HL := Lib.hid hT.len
  clear h h1 h2 h3 hG hb0 h4 h5 hT
  go_enter Tryz.func19, Tryz.ntmps19
  go_wp2_with fail
  go_step3
  go_wp2_with fail
  rw [← hW0]
  clear hW0
  refine (valid_N2 w _ sp l ex W0 HN.out HB0.out (HG.out.below HB0.out)).mono ?_
  rintro e w1 ⟨B1, B2, B3, m1, e1, m2, e2, m3, e3, rfl, hN, hS, hb1⟩
  have HN1 := Lib.hid hN; have HS1 := Lib.hid hS
  have d0 := bcel hb1 b0; have d1 := bcel hb1 b1; have d2 := bcel hb1 b2
  have k0 := (hb1.frozen (p := ⟨w.heap.size, 0, none⟩) hsz0).trans f0
  have k1 := (hb1.frozen (p := ⟨w.heap.size, 1, none⟩) hsz0).trans f1
  have k2 := (hb1.frozen (p := ⟨w.heap.size, 2, none⟩) hsz0).trans f2
  have HB1 := Lib.hid (bthen HB0.out hb1)
  clear hN hS hb1 b0 b1 b2 f0 f1 f2
  go_wp2_with fail
  obtain ⟨W2, hW2⟩ : ∃ W2, W2 = ((w1.setCell ⟨w.heap.size, 0, none⟩ (.slice B1 m1 e1)).setCell ⟨w.heap.size, 1, none⟩ (.slice B2 m2 e2)).setCell ⟨w.heap.size, 2, none⟩ (.slice B3 m3 e3) := ⟨_, rfl⟩
  rw [← hW2]
  have g0 : W2.cell? ⟨w.heap.size, 0, none⟩ = some (.slice B1 m1 e1) := by rw [hW2]; go_simp
  have g1 : W2.cell? ⟨w.heap.size, 1, none⟩ = some (.slice B2 m2 e2) := by rw [hW2]; go_simp
  have g2 : W2.cell? ⟨w.heap.size, 2, none⟩ = some (.slice B3 m3 e3) := by rw [hW2]; go_simp
  have HB2 : Hid (Below w.heap.size w W2) := by
    show Below _ _ _
    rw [hW2]
    exact Below.setCell (Below.setCell (Below.setCell HB1.out (Nat.le_refl _) _) (Nat.le_refl _) _) (Nat.le_refl _) _
  have hs2 : w.heap.size < W2.heap.size := World.block_lt_of_cell? W2 _ g0
  clear hW2 d0 d1 d2 k0 k1 k2
  refine (comps_N _ _ _ _ W2 (HN1.out.below HB2.out) (HG.out.below HB2.out)).mono ?_
  rintro e w3 ⟨bm, rfl, hM, hlt, hb3⟩
  have HM := Lib.hid (show MapAt encP2 bm (cmE sp l ex) w3 from hM)
  have c0 := bcel hb3 g0
  have HB3 := Lib.hid (bthen HB2.out hb3)
  have hs3 := hb3.size
  have HI := Lib.hid (show IntV (cmE sp l ex) from compM_int _ _ _)
  obtain ⟨kv, hkv⟩ : ∃ kv, kv = cmE sp l ex := ⟨_, rfl⟩
  obtain ⟨sp', hsp⟩ : ∃ sp', sp' = effS sp l ex := ⟨_, rfl⟩
  rw [← hkv] at HM HI
  rw [← hsp] at HS1
  have HKV := Lib.hid hkv; have HSP := Lib.hid hsp
  clear hM hb3 g0 g1 g2 hkv hsp
  have hbm := HM.out.lt
  obtain ⟨i0, hi, hz0, hz1, hz2⟩ := info_parts infoI
  go_wp2_with (at_make; refine wpList_make_own w3 rfl _ _ _ rfl w3.heap.size 3 i0 (.int .i64 0) 1 Tryz.underlying38 hi hz0 hz1 .i64 .i64 (n : Int) n rfl rfl rfl (by rw [hz2]; omega) (by simp only [maxLen]; omega) (Nat.le_refl _) ?_; intro w4 hown hgr; have HO4 := Lib.hid hown; have HG4 := Lib.hid hgr; clear hown hgr)
  go_step3
  have HB4 := Lib.hid (HB3.out.trans (below_of_grown' (S0 := w.heap.size) (by omega) HG4.out (fun r e => by cases e)))
  have hs4 := HG4.out.size
  have HM4 := Lib.hid (HM.out.same (HG4.out.block bm hbm (by simp)))
  have e0 : w4.cell? ⟨w.heap.size, 0, none⟩ = some (.slice B1 m1 e1) := (World.cell?_of_block (w := w3) (HG4.out.block w.heap.size (by omega) (by simp))).trans c0
  have HS0 : Hid (TxtSt w.heap.size bm w3.heap.size n B1 m1 e1 kv w [] 0 w4) := ⟨HO4.out, HM4.out, e0, HB4.out⟩
  clear HO4 HM4 e0 HM c0
  have hgB : w.heap.size ≠ w3.heap.size := by omega
  have hgw : w.heap.size ≤ w3.heap.size := by omega
  go_wp2_with fail
  go_loopw [6, 7, 8, 24] (fun s la cl r wr => ∃ (k m : Nat) (o : List Int) (last kl : Int), k ≤ n ∧ m ≤ k ∧ s = .slice (some ⟨w3.heap.size, 0, none⟩) m n ∧ la = .int .i64 last ∧ cl = .int .i64 kl ∧ r = .int .i64 (k : Int) ∧ Hid (textS sp' kv (t.take k) = ⟨o, last, kl⟩) ∧ Hid (o.length = m) ∧ Hid (TxtSt w.heap.size bm w3.heap.size n B1 m1 e1 kv w o m wr)) (fun _ _ _ r _ => n - (intOf r).toNat)
  case atStart => exact ⟨0, 0, [], -1, 0, by omega, by omega, rfl, by go_num, by go_num, by go_num, rfl, rfl, HS0.out⟩
  case round =>
    obtain ⟨k, m, o, last, kl, hk, hmk, rfl, rfl, rfl, rfl, HTS, HOl, HSt⟩ := hrel
    obtain ⟨wo, rfl⟩ : ∃ wo : World, wo = wr := ⟨_, rfl⟩
    obtain ⟨q1, q2, q3, q4⟩ := HSt.out
    have HO := Lib.hid q1; have HMo := Lib.hid q2; have HBo := Lib.hid q4
    clear q1 q2 q4 HSt HS0
    by_cases hlt : k < n
    · obtain ⟨b, off, rfl⟩ := HT.out.addr (by omega)
      obtain ⟨x, hx, cx⟩ := RdI.elt (HT.out.below HBo.out) hlt
      have HX := Lib.hid (show textS sp' kv (t.take (k + 1)) = tstep sp' kv ⟨o, last, kl⟩ x by rw [textS_step hx.out, HTS.out])
      have HTok := Lib.hid (show TS.ok ⟨o, last, kl⟩ by rw [← HTS.out]; exact textS_ok _ _ _)
      clear hx
      have hlt' : (k : Int) < (n : Int) := by omega
      go_wp2_with fail
      refine (class_any B1 m1 e1 x sp' wo (HS1.out.below HBo.out) (HG.out.below HBo.out)).mono ?_
      rintro e w5 ⟨rfl, hb5⟩
      have HO5 := Lib.hid (own_below HO.out hb5)
      have HM5 := Lib.hid (HMo.out.below hb5)
      have q5 := bcel hb5 q3
      have HB5 := Lib.hid (bthen HBo.out hb5)
      have hs5 := hb5.size
      obtain ⟨own, hown⟩ : ∃ own, own = cls sp' x := ⟨_, rfl⟩
      rw [← hown]
      have HOW := Lib.hid hown
      clear hown hb5 HO HMo HBo q3 cx
      go_upto_region 10 with fail
      go_cut [12] from 32 to 46 (fun s12 wc => s12 = .bool (TS.blk ⟨o, last, kl⟩ own) ∧ wc = w5)
      case first =>
        rcases HTok.out with hl1 | ⟨j, hl1, hl2⟩
        · obtain rfl : last = -1 := hl1
          go_wp2_with fail
          go_meet
          exact ⟨rfl, rfl⟩
        · obtain rfl : last = (j : Int) := hl1
          have hjm : j < m := by rw [← HOl.out]; exact hl2
          have w1' : IntKind.i64.wrap ((m : Int) - 1) = (m : Int) - 1 := IntWalk.i64_in _ (by omega)
          have n0 : decide ((j : Int) < 0) = false := decide_eq_false (by omega)
          by_cases g1 : (j : Int) < (m : Int) - 1
          · have n1 : decide ((j : Int) < (m : Int) - 1) = true := decide_eq_true g1
            by_cases g2 : own ≤ kl
            · have n2 : decide (own ≤ kl) = true := decide_eq_true g2
              have HBl := Lib.hid (show TS.blk ⟨o, (j : Int), kl⟩ own = true by simp [TS.blk, HOl.out, g1, g2])
              clear g1 g2
              go_wp2_with fail
              go_meet
              exact ⟨by rw [HBl.out], rfl⟩
            · have n2 : decide (own ≤ kl) = false := decide_eq_false g2
              have HBl := Lib.hid (show TS.blk ⟨o, (j : Int), kl⟩ own = false by simp [TS.blk, HOl.out, g1, g2])
              clear g1 g2
              go_wp2_with fail
              go_meet
              exact ⟨by rw [HBl.out], rfl⟩
          · have n1 : decide ((j : Int) < (m : Int) - 1) = false := decide_eq_false g1
            have HBl := Lib.hid (show TS.blk ⟨o, (j : Int), kl⟩ own = false by simp [TS.blk, HOl.out, g1])
            clear g1
            go_wp2_with fail
            go_meet
            exact ⟨by rw [HBl.out], rfl⟩
      obtain ⟨hu12, hwc⟩ := hcut
      replace hwc := hwc.symm
      subst hwc
      cases hB : TS.blk ⟨o, last, kl⟩ own
      · rw [hB] at hu12
        subst hu12
        obtain ⟨j, rfl, hjo⟩ : ∃ j : Nat, last = (j : Int) ∧ j < o.length := by
          rcases HTok.out with hl1 | h
          · obtain rfl : last = -1 := hl1
            simp [TS.blk] at hB
          · exact h
        have hjm : j < m := by rw [← HOl.out]; exact hjo
        obtain ⟨y, hy⟩ : ∃ y, Hid (o[j]? = some y) := ⟨o[j], List.getElem?_eq_getElem hjo⟩
        have HXn := Lib.hid (HX.out.trans (show tstep sp' kv ⟨o, (j : Int), kl⟩ x = match pairI kv y x with | some p => ⟨o.set j p, (j : Int), kl⟩ | none => tput sp' ⟨o, (j : Int), kl⟩ x by
          unfold tstep
          rw [← HOW.out, hB]
          simp only [Bool.false_eq_true, if_false, Int.toNat_natCast]
          rw [List.getD_eq_getElem?_getD, hy.out]; rfl))
        have i0' : (0 : Int) ≤ (j : Int) := by omega
        have i1' : (j : Int) < (m : Int) := by omega
        have cj5 : w5.cell? ⟨w3.heap.size, j, none⟩ = some (.int .i64 y) := by
          rw [HO5.out.cellAt j (by omega), flatI, List.getElem?_map, hy.out]; rfl
        clear hB HX
        cases hH : hcomp y x with
        | some p =>
          have HXp := Lib.hid (HXn.out.trans (by rw [pairI_h hH]))
          go_wp2_with fail
          refine (hcomp_any y x w5).mono ?_
          rintro e w6 ⟨rfl, hb6⟩
          rw [hH]
          have HO6 := Lib.hid (own_below HO5.out hb6); have HM6 := Lib.hid (HM5.out.below hb6); have q6 := bcel hb6 q5; have HB6 := Lib.hid (bthen HB5.out hb6)
          clear hb6 HO5 HM5 q5 HB5 cj5 hH
          have cj6 : w6.cell? ⟨w3.heap.size, j, none⟩ = some (.int .i64 y) := by
            rw [HO6.out.cellAt j (by omega), flatI, List.getElem?_map, hy.out]; rfl
          have fj6 := HO6.out.frozenAt j
          have hst := HO6.out.stored j (.int .i64 p)
          rw [flatI_set] at hst
          have HSn := Lib.hid (show TxtSt w.heap.size bm w3.heap.size n B1 m1 e1 kv w (o.set j p) m _ from txt_put' HM6.out q6 HB6.out hgB hbm hgw hst.1 hst.2)
          clear hst
          go_wp2_with fail
          go_roundw
          case rel => exact ⟨k + 1, m, o.set j p, (j : Int), kl, by omega, by omega, rfl, rfl, rfl, by go_num, HXp, Lib.hid (by simp [HOl.out]), HSn.out⟩
          case measure => simp [intOf]; omega
        | none =>
          go_wp2_with fail
          refine (hcomp_any y x w5).mono ?_
          rintro e w6 ⟨rfl, hb6⟩
          rw [hH]
          have HO6 := Lib.hid (own_below HO5.out hb6); have HM6 := Lib.hid (HM5.out.below hb6); have q6 := bcel hb6 q5; have HB6 := Lib.hid (bthen HB5.out hb6)
          clear hb6 HO5 HM5 q5 HB5 cj5
          cases hK : look kv (y, x) with
          | none =>
            have HXp := Lib.hid (HXn.out.trans (by rw [pairI_none hH hK]))
            have HLk : (Instr.lookup 60 (.map (some bm)) (.agg #[.int .i64 y, .int .i64 x]) true).run Tryz.prog w6 = .ok (.tuple #[.int .i64 0, .bool false]) w6 := (lookP2 HM6.out y x).trans (by rw [hK]; rfl)
            have cj6 : w6.cell? ⟨w3.heap.size, j, none⟩ = some (.int .i64 y) := by
              rw [HO6.out.cellAt j (by omega), flatI, List.getElem?_map, hy.out]; rfl
            clear hK hH
            by_cases hz : own = 0
            · have hz' : (own == 0) = true := beq_iff_eq.2 hz
              have HF := Lib.hid (HXp.out.trans (by rw [tput, ← HOW.out, if_pos hz]))
              clear hz
              go_wp2_with (at_builtin; refine wpList_put_int rfl _ _ rfl w3.heap.size m n o rfl (HO6.out.alloc _) w6.heap.size rfl x (by go_simp) (by omega) ?_; intro w9 hown hgr; have HSn := Lib.hid (show TxtSt w.heap.size bm w3.heap.size n B1 m1 e1 kv w (o ++ [x]) (m + 1) w9 from txt_put HM6.out q6 HB6.out hgB hbm hgw hown hgr); clear hown hgr)
              go_roundw
              case rel => exact ⟨k + 1, m + 1, o ++ [x], (m : Int), own, by omega, by omega, rfl, rfl, rfl, by go_num, Lib.hid (HF.out.trans (by simp [HOl.out])), Lib.hid (by simp [HOl.out]), HSn.out⟩
              case measure => simp [intOf]; omega
            · have hz' : (own == 0) = false := beq_eq_false_iff_ne.2 hz
              have HF := Lib.hid (HXp.out.trans (by rw [tput, ← HOW.out, if_neg hz]))
              clear hz
              go_wp2_with (at_builtin; refine wpList_put_int rfl _ _ rfl w3.heap.size m n o rfl (HO6.out.alloc _) w6.heap.size rfl x (by go_simp) (by omega) ?_; intro w9 hown hgr; have HSn := Lib.hid (show TxtSt w.heap.size bm w3.heap.size n B1 m1 e1 kv w (o ++ [x]) (m + 1) w9 from txt_put HM6.out q6 HB6.out hgB hbm hgw hown hgr); clear hown hgr)
              go_roundw
              case rel => exact ⟨k + 1, m + 1, o ++ [x], (j : Int), own, by omega, by omega, rfl, rfl, rfl, by go_num, Lib.hid (HF.out.trans (by simp [HOl.out])), Lib.hid (by simp [HOl.out]), HSn.out⟩
              case measure => simp [intOf]; omega
          | some u =>
            obtain ⟨p, rfl⟩ := look_int HI.out hK
            have HXp := Lib.hid (HXn.out.trans (by rw [pairI_some hH hK]))
            have HLk : (Instr.lookup 60 (.map (some bm)) (.agg #[.int .i64 y, .int .i64 x]) true).run Tryz.prog w6 = .ok (.tuple #[.int .i64 p, .bool true]) w6 := (lookP2 HM6.out y x).trans (by rw [hK]; rfl)
            clear hK hH
            have cj6 : w6.cell? ⟨w3.heap.size, j, none⟩ = some (.int .i64 y) := by
              rw [HO6.out.cellAt j (by omega), flatI, List.getElem?_map, hy.out]; rfl
            have fj6 := HO6.out.frozenAt j
            have hst := HO6.out.stored j (.int .i64 p)
            rw [flatI_set] at hst
            have HSn := Lib.hid (show TxtSt w.heap.size bm w3.heap.size n B1 m1 e1 kv w (o.set j p) m _ from txt_put' HM6.out q6 HB6.out hgB hbm hgw hst.1 hst.2)
            clear hst
            go_wp2_with fail
            go_roundw
            case rel => exact ⟨k + 1, m, o.set j p, (j : Int), kl, by omega, by omega, rfl, rfl, rfl, by go_num, HXp, Lib.hid (by simp [HOl.out]), HSn.out⟩
            case measure => simp [intOf]; omega
      · rw [hB] at hu12
        subst hu12
        have HXp := Lib.hid (HX.out.trans (show tstep sp' kv ⟨o, last, kl⟩ x = tput sp' ⟨o, last, kl⟩ x by unfold tstep; rw [← HOW.out, hB]; rfl))
        clear hB HX
        by_cases hz : own = 0
        · have hz' : (own == 0) = true := beq_iff_eq.2 hz
          have HF := Lib.hid (HXp.out.trans (by rw [tput, ← HOW.out, if_pos hz]))
          clear hz
          go_wp2_with (at_builtin; refine wpList_put_int rfl _ _ rfl w3.heap.size m n o rfl (HO5.out.alloc _) w5.heap.size rfl x (by go_simp) (by omega) ?_; intro w9 hown hgr; have HSn := Lib.hid (show TxtSt w.heap.size bm w3.heap.size n B1 m1 e1 kv w (o ++ [x]) (m + 1) w9 from txt_put HM5.out q5 HB5.out hgB hbm hgw hown hgr); clear hown hgr)
          go_roundw
          case rel => exact ⟨k + 1, m + 1, o ++ [x], (m : Int), own, by omega, by omega, rfl, rfl, rfl, by go_num, Lib.hid (HF.out.trans (by simp [HOl.out])), Lib.hid (by simp [HOl.out]), HSn.out⟩
          case measure => simp [intOf]; omega
        · have hz' : (own == 0) = false := beq_eq_false_iff_ne.2 hz
          have HF := Lib.hid (HXp.out.trans (by rw [tput, ← HOW.out, if_neg hz]))
          clear hz
          go_wp2_with (at_builtin; refine wpList_put_int rfl _ _ rfl w3.heap.size m n o rfl (HO5.out.alloc _) w5.heap.size rfl x (by go_simp) (by omega) ?_; intro w9 hown hgr; have HSn := Lib.hid (show TxtSt w.heap.size bm w3.heap.size n B1 m1 e1 kv w (o ++ [x]) (m + 1) w9 from txt_put HM5.out q5 HB5.out hgB hbm hgw hown hgr); clear hown hgr)
          go_roundw
          case rel => exact ⟨k + 1, m + 1, o ++ [x], last, own, by omega, by omega, rfl, rfl, rfl, by go_num, Lib.hid (HF.out.trans (by simp [HOl.out])), Lib.hid (by simp [HOl.out]), HSn.out⟩
          case measure => simp [intOf]; omega
    · have e : k = n := by omega
      subst e
      have hlt' : ¬ (k : Int) < (k : Int) := by omega
      have HTk := Lib.hid (show textM sp' kv t = o by rw [textM, ← List.take_of_length_le (l := t) (i := k) (by rw [HL.out]; exact Nat.le_refl _), HTS.out])
      go_wp2_with fail
      go_ret
      obtain ⟨A9, c9, e9, hrd⟩ := own_rd encI_len (by omega) HO.out (by omega)
      cases e9
      exact ⟨_, m, k, rfl, by rw [← HSP.out, ← HKV.out, HTk.out]; exact hrd, HBo.out⟩
end Go.Proofs.YtfeofhinpgodoaaGreatDoor

