/- The walk of the reference's runs. -/
import Derived.Test.YtamekpldmplenaaDoorSame
import Derived.Test.YtamekpldmplenaaDoorRunsR
namespace Go.Proofs.YtamekpldmplenaaDoor
open Go.RowKit Go.Shelf

theorem rg_hi (R : List Rg) (lo a b : Int) : ((R ++ [Rg.mk lo a]).flatMap encRg).set (R.length * 2 + 1) (.int .i64 b) = (R ++ [Rg.mk lo b]).flatMap encRg := by
  have h : (R.flatMap encRg).length = R.length * 2 := flat_len encRg_len R
  rw [List.flatMap_append, List.flatMap_append, List.set_append_right _ _ (by omega), h, show R.length * 2 + 1 - R.length * 2 = 1 by omega]
  rfl
theorem rg_row (R : List Rg) (lo hi : Int) : (R ++ [Rg.mk lo hi]).flatMap encRg = R.flatMap encRg ++ [.int .i64 lo, .int .i64 hi] := by simp [encRg]

set_option maxHeartbeats 2000000 in
theorem refRuns_any (A : Option Addr) (n c : Nat) (l : List Sp) (A' : Option Addr) (len cap : Nat) (text : List Int) (w : World) (hR : RdSp w A n l) (hT : RdI w A' len text) (hbig : len ≤ 1000000000) :
    Calls Tryd.prog 19 #[.slice A n c, .slice A' len cap] w (RgsPost (fun ys => ys = runsF (cls l) text) w) := by
  have HR := Lib.hid hR; have HT := Lib.hid hT
  have hlen := Lib.hid hT.len
  have hf0 := Lib.hid (cls_nonneg l)
  clear hR hT
  obtain ⟨i0, hi, hz0, hz1, hz2⟩ := info_parts infoRg
  go_enter Tryd.func19, Tryd.ntmps19
  go_wp2_with fail
  go_loopw [5, 6] (fun s r wr => ∃ (k m : Nat) (o : List Rg), k ≤ len ∧ m ≤ k ∧ r = .int .i64 (k : Int) ∧ Hid (wr.ownsRow w.heap.size 38 2 s m (o.flatMap encRg)) ∧ Hid (o.length = m) ∧ Hid (o = runsF (cls l) (text.take k)) ∧ Hid (Below w.heap.size w wr))
    (fun _ r _ => len - (intOf r).toNat)
  case atStart => exact ⟨0, 0, [], by omega, by omega, by go_num, World.ownsRow_nil _ _ _ _, rfl, rfl, Below.refl _ _⟩
  case round =>
    obtain ⟨k, m, o, hk, hmk, rfl, HO, HL, HP, HB⟩ := hrel
    by_cases hlt : k < len
    · obtain ⟨b, off, rfl⟩ := HT.out.addr (by omega)
      have hx : ∃ x, Hid (text[k]? = some x) := ⟨text[k]'(by rw [hlen.out]; exact hlt), List.getElem?_eq_getElem _⟩
      obtain ⟨x, hx⟩ := hx
      obtain ⟨x', hx', cx⟩ := RdI.elt (HT.out.below HB.out) hlt
      have ex : x' = x := Option.some.inj (hx'.out.symm.trans hx.out)
      subst ex
      have hlt' : (k : Int) < (len : Int) := by omega
      have HX := Lib.hid (show text[k]? = some x' from hx.out)
      clear hx hx'
      obtain ⟨wo, rfl⟩ : ∃ wo : World, wo = wr := ⟨_, rfl⟩
      by_cases hc : cls l x' = 0
      · have e0 : (cls l x' == 0) = true := beq_iff_eq.2 hc
        have hz := Lib.hid (runsF_zero HX.out hc)
        clear hc
        go_wp2_with fail
        refine (refStarter_any _ _ _ x' l _ (HR.out.below HB.out)).mono ?_
        rintro e w1 ⟨rfl, hb⟩
        rw [e0]
        have HB1 := Lib.hid (bthen HB.out hb)
        have HO1 := Lib.hid (own_below HO.out hb)
        clear hb
        go_wp2_with fail
        go_roundw
        case rel => exact ⟨k + 1, m, o, by omega, by omega, by go_num, HO1.out, HL.out, by rw [hz.out]; exact HP.out, HB1.out⟩
        case measure => simp [intOf]; omega
      · have e0 : (cls l x' == 0) = false := beq_eq_false_iff_ne.2 hc
        have HC := Lib.hid hc
        clear hc
        by_cases hop : opn (cls l) (text.take k) false = true
        · obtain ⟨j, rfl⟩ : ∃ j, k = j + 1 := by
            cases k with
            | zero => simp [opn] at hop
            | succ j => exact ⟨j, rfl⟩
          obtain ⟨y, hy, cy⟩ := RdI.elt (HT.out.below HB.out) (show j < len by omega)
          have ey : (cls l y == 0) = false := beq_eq_false_iff_ne.2 (by have := take_opn (f := cls l) hy.out; rw [hop] at this; exact of_decide_eq_true this.symm)
          obtain ⟨R, lo, hr1, hr2⟩ := runsF_more HX.out HC.out hop
          have hoR := HP.out.trans hr1
          subst hoR
          have HR2 := Lib.hid hr2
          clear hr1 hr2 hop
          have hm : m = R.length + 1 := by have := HL.out; simp at this; omega
          subst hm
          obtain ⟨g, cap', rfl⟩ := ownsRow_succ HO.out
          have HY := Lib.hid hy.out
          clear hy
          have gj : (0 : Int) < (j : Int) + 1 := by omega
          have gj2 : (j : Int) + 1 - 1 = (j : Int) := by omega
          have gj3 : (j : Int) < (len : Int) := by omega
          have gm : (R.length : Int) + 1 - 1 = (R.length : Int) := by omega
          go_wp2_with fail
          refine (refStarter_any _ _ _ x' l _ (HR.out.below HB.out)).mono ?_
          rintro e w1 ⟨rfl, hb⟩
          rw [e0]
          have HB1 := Lib.hid (bthen HB.out hb)
          have HO1 := Lib.hid (own_below HO.out hb)
          have cy1 : w1.cell? ⟨b, off + j, none⟩ = some (.int .i64 y) := bcel hb cy
          clear hb
          go_wp2_with fail
          refine (refStarter_any _ _ _ y l _ (HR.out.below HB1.out)).mono ?_
          rintro e w2 ⟨rfl, hb⟩
          rw [ey]
          have HB2 := Lib.hid (bthen HB1.out hb)
          have HO2 := Lib.hid (own_below HO1.out hb)
          clear hb
          have hgl := HO2.out.lt g rfl
          have hst := HO2.out.stored (R.length * 2 + 1) (.int .i64 ((j : Int) + 1 + 1))
          have hb3 := HB2.out.grown hst.2 (by omega) (fun r e => by cases e; exact hgl.1)
          rw [rg_hi] at hst
          have HST := Lib.hid hst.1
          have HB3 := Lib.hid hb3
          have fz := HO2.out.frozenAt (R.length * 2 + 1)
          have cz : w2.cell? ⟨g, R.length * 2 + 1, none⟩ = some (.int .i64 ((j : Int) + 1)) := by
            rw [HO2.out.cellAt (R.length * 2 + 1) (by omega), flat_at encRg_len _ R.length 1 (by simp) (by omega)]
            simp [encRg]
          clear hst hb3 hgl
          have gm2 : (R.length : Int) < (R.length : Int) + 1 := by omega
          go_wp2_with fail
          go_roundw
          case rel => exact ⟨j + 2, R.length + 1, R ++ [Rg.mk lo ((j : Int) + 1 + 1)], by omega, by omega, by go_num, HST.out, by show (R ++ [_]).length = _; simp, by rw [HR2.out]; show _ = _; rw [Int.natCast_add]; rfl, HB3.out⟩
          case measure => simp [intOf]; omega
        · have HNEW := Lib.hid (runsF_new HX.out HC.out (Bool.eq_false_iff.2 hop))
          by_cases hk0 : k = 0
          · subst hk0
            have cx0 : wo.cell? ⟨b, off, none⟩ = some (.int .i64 x') := by simpa using cx
            have hlt0 : (0 : Int) < (len : Int) := by omega
            clear hop
            go_wp2_with fail
            refine (refStarter_any _ _ _ x' l _ (HR.out.below HB.out)).mono ?_
            rintro e w1 ⟨rfl, hb⟩
            rw [e0]
            have HB1 := Lib.hid (bthen HB.out hb)
            have HO1 := Lib.hid (own_below HO.out hb)
            clear hb
            have hle : w.heap.size ≤ w1.heap.size := HB1.out.size
            have HBA := Lib.hid (HB1.out.trans (((Below.refl w1.heap.size w1).alloc (Nat.le_refl _) (.cells #[.int .i64 (0 : Int), .int .i64 ((0 : Int) + 1)] 38)).mono hle))
            go_wp2_with (at_builtin; refine wpList_append_own_at (w := w1.alloc (.cells #[.int .i64 (0 : Int), .int .i64 ((0 : Int) + 1)] 38)) rfl _ _ 30 rfl w.heap.size 38 i0 (.agg #[.int .i64 0, .int .i64 0]) 2 16 Tryd.underlying30 hi hz0 hz1 hz2 rfl (by decide) _ m _ rfl (HO1.out.alloc _) ⟨w1.heap.size, 0, none⟩ 1 1 [.int .i64 (0 : Int), .int .i64 ((0 : Int) + 1)] rfl rfl (World.news_of_block (cs := #[.int .i64 (0 : Int), .int .i64 ((0 : Int) + 1)]) (t := 38) (fr := (0, 0)) (heap_alloc_new w1 _)) (by intro u hu; simp at hu; rcases hu with rfl | rfl <;> rfl) (by simp only [maxLen]; omega) (by omega) (by simp; omega) ?_; intro v' w4 hown' hgrow hnil hat; have HB4 := Lib.hid (HBA.out.grown hgrow (by simp; omega) (fun r e => (HO1.out.lt r e).1)); have HO4 := Lib.hid hown'; clear hown' hgrow hnil hat)
            go_roundw
            case rel => exact ⟨0 + 1, m + 1, o ++ [Rg.mk (0 : Int) ((0 : Int) + 1)], by omega, by omega, by go_num, by show World.ownsRow _ _ _ _ _ _ _; rw [rg_row]; exact HO4.out, by show (o ++ [_]).length = _; rw [List.length_append, HL.out]; rfl, by rw [HNEW.out, HP.out]; rfl, HB4.out⟩
            case measure => simp [intOf]; omega
          · obtain ⟨j, rfl⟩ : ∃ j, k = j + 1 := ⟨k - 1, by omega⟩
            obtain ⟨y, hy, cy⟩ := RdI.elt (HT.out.below HB.out) (show j < len by omega)
            have ey : (cls l y == 0) = true := beq_iff_eq.2 (by have := take_opn (f := cls l) hy.out; rw [Bool.eq_false_iff.2 hop] at this; have := of_decide_eq_false this.symm; omega)
            have gj : (0 : Int) < (j : Int) + 1 := by omega
            have gj2 : (j : Int) + 1 - 1 = (j : Int) := by omega
            have gj3 : (j : Int) < (len : Int) := by omega
            clear hop
            go_wp2_with fail
            refine (refStarter_any _ _ _ x' l _ (HR.out.below HB.out)).mono ?_
            rintro e w1 ⟨rfl, hb⟩
            rw [e0]
            have HB1 := Lib.hid (bthen HB.out hb)
            have HO1 := Lib.hid (own_below HO.out hb)
            have cy1 : w1.cell? ⟨b, off + j, none⟩ = some (.int .i64 y) := bcel hb cy
            clear hb
            go_wp2_with fail
            refine (refStarter_any _ _ _ y l _ (HR.out.below HB1.out)).mono ?_
            rintro e w2 ⟨rfl, hb⟩
            rw [ey]
            have HB2 := Lib.hid (bthen HB1.out hb)
            have HO2 := Lib.hid (own_below HO1.out hb)
            clear hb
            have hle : w.heap.size ≤ w2.heap.size := HB2.out.size
            have HBA := Lib.hid (HB2.out.trans (((Below.refl w2.heap.size w2).alloc (Nat.le_refl _) (.cells #[.int .i64 ((j : Int) + 1), .int .i64 (((j : Int) + 1) + 1)] 38)).mono hle))
            go_wp2_with (at_builtin; refine wpList_append_own_at (w := w2.alloc (.cells #[.int .i64 ((j : Int) + 1), .int .i64 (((j : Int) + 1) + 1)] 38)) rfl _ _ 30 rfl w.heap.size 38 i0 (.agg #[.int .i64 0, .int .i64 0]) 2 16 Tryd.underlying30 hi hz0 hz1 hz2 rfl (by decide) _ m _ rfl (HO2.out.alloc _) ⟨w2.heap.size, 0, none⟩ 1 1 [.int .i64 ((j : Int) + 1), .int .i64 (((j : Int) + 1) + 1)] rfl rfl (World.news_of_block (cs := #[.int .i64 ((j : Int) + 1), .int .i64 (((j : Int) + 1) + 1)]) (t := 38) (fr := (0, 0)) (heap_alloc_new w2 _)) (by intro u hu; simp at hu; rcases hu with rfl | rfl <;> rfl) (by simp only [maxLen]; omega) (by omega) (by simp; omega) ?_; intro v' w4 hown' hgrow hnil hat; have HB4 := Lib.hid (HBA.out.grown hgrow (by simp; omega) (fun r e => (HO2.out.lt r e).1)); have HO4 := Lib.hid hown'; clear hown' hgrow hnil hat)
            go_roundw
            case rel => exact ⟨(j + 1) + 1, m + 1, o ++ [Rg.mk ((j : Int) + 1) (((j : Int) + 1) + 1)], by omega, by omega, by go_num, by show World.ownsRow _ _ _ _ _ _ _; rw [rg_row]; exact HO4.out, by show (o ++ [_]).length = _; rw [List.length_append, HL.out]; rfl, by rw [HNEW.out, HP.out]; rfl, HB4.out⟩
            case measure => simp [intOf]; omega
    · have e : k = len := by omega
      subst e
      have hlt' : ¬ (k : Int) < (k : Int) := by omega
      go_wp2_with fail
      go_ret
      obtain ⟨A3, c3, rfl, hrd⟩ := own_rd encRg_len (by omega) HO.out (by omega)
      refine ⟨A3, m, c3, o, hrd, ?_, rfl, HB.out⟩
      have := HP.out
      rwa [List.take_of_length_le (by rw [hlen.out]; exact Nat.le_refl _)] at this
end Go.Proofs.YtamekpldmplenaaDoor
