/- The walk of the reference's sort. -/
import Derived.Test.YtamekpldmplenaaDoorRefD
namespace Go.Proofs.YtamekpldmplenaaDoor
open Go.RowKit Go.Shelf

theorem own_below {B : Nat} {e : TypeId} {k : Nat} {v : Value} {n : Nat} {xs : List Value} {w w' : World} (h : w.ownsRow B e k v n xs) (hb : Below w.heap.size w w') : w'.ownsRow B e k v n xs :=
  h.kept (row := none) ⟨hb.os, hb.tape, hb.output, hb.size, fun j hj _ => hb.block j hj⟩ (by cases hv : v.ownBlock <;> simp)

set_option maxHeartbeats 2000000 in
theorem refSort_any (A : Option Addr) (n c : Nat) (l : List Sp) (A' : Option Addr) (len cap : Nat) (text : List Int) (w : World) (hR : RdSp w A n l) (hT : RdI w A' len text) (hbig : len ≤ 1000000000) :
    Calls Tryd.prog 28 #[.slice A n c, .slice A' len cap] w (IntsPost (fun ys => F0 (cls l) text ys ∧ Ord (cls l) ys) w) := by
  have HR := Lib.hid hR; have HT := Lib.hid hT
  have hlen := Lib.hid hT.len
  have hf0 := Lib.hid (cls_nonneg l)
  clear hR hT
  obtain ⟨i0, hi, hz0, hz1, hz2⟩ := info_parts infoI
  go_enter Tryd.func28, Tryd.ntmps28
  go_wp2_with fail
  go_loopw [5, 6] (fun s r wr => ∃ (k : Nat) (o : List Int), k ≤ len ∧ r = .int .i64 (k : Int) ∧ Hid (wr.ownsRow w.heap.size 3 1 s k (o.flatMap encI)) ∧ Hid (o.length = k) ∧ Hid (F0 (cls l) (text.take k) o ∧ Ord (cls l) o) ∧ Hid (Below w.heap.size w wr))
    (fun _ r _ => len - (intOf r).toNat)
  case atStart => exact ⟨0, [], by omega, by go_num, World.ownsRow_nil _ _ _ _, rfl, ⟨by simpa using F0.refl _, trivial⟩, Below.refl _ _⟩
  case round =>
    obtain ⟨k, o, hk, rfl, HO, HL, HP, HB⟩ := hrel
    by_cases hlt : k < len
    · obtain ⟨b, off, rfl⟩ := HT.out.addr (by omega)
      have hx : ∃ x, Hid (text[k]? = some x) := ⟨text[k]'(by rw [hlen.out]; exact hlt), List.getElem?_eq_getElem _⟩
      obtain ⟨x, hx⟩ := hx
      obtain ⟨x1, hx1, cx0⟩ := RdI.elt HT.out hlt
      have hbs : b < w.heap.size := World.block_lt_of_cell? w _ cx0
      clear hx1 cx0
      obtain ⟨x', hx', cx⟩ := RdI.elt (HT.out.below HB.out) hlt
      have ex : x' = x := Option.some.inj (hx'.out.symm.trans hx.out)
      subst ex
      have hlt' : (k : Int) < (len : Int) := by omega
      have HX := Lib.hid (show text[k]? = some x' from hx.out)
      have HB1 := Lib.hid (HB.out.trans (((Below.refl wr.heap.size wr).alloc (Nat.le_refl _) (.cells #[.int .i64 x'] 3)).mono HB.out.size))
      have hle : w.heap.size ≤ wr.heap.size := HB.out.size
      have HS := Lib.hid (ins_start (x := x') HP.out.2 HP.out.1)
      clear hx hx'
      obtain ⟨wo, rfl⟩ : ∃ wo : World, wo = wr := ⟨_, rfl⟩
      go_wp2_with (at_builtin; refine wpList_append_own_at (w := wo.alloc (.cells #[.int .i64 x'] 3)) rfl _ _ 27 rfl w.heap.size 3 i0 (.int .i64 0) 1 8 Tryd.underlying27 hi hz0 hz1 hz2 rfl (by decide) _ k _ rfl (HO.out.alloc _) ⟨wo.heap.size, 0, none⟩ 1 1 [.int .i64 x'] rfl rfl (World.news_of_block (cs := #[.int .i64 x']) (t := 3) (fr := (0, 0)) (heap_alloc_new wo _)) (by intro u hu; simp at hu; subst hu; rfl) (by simp only [maxLen]; omega) (by omega) (by simp; omega) ?_; intro v' w1 hown' hgrow hnil hat; obtain ⟨g, cap', rfl⟩ := ownsRow_succ hown'; have hb1 := HB1.out.grown hgrow (by simp; omega) (fun r e => (HO.out.lt r e).1); have HB2 := Lib.hid hb1; have HO1 := Lib.hid hown'; clear hown' hgrow hnil hat hb1; have cx1 : w1.cell? ⟨b, off + k, none⟩ = some (.int .i64 x') := (by obtain ⟨x2, h2, c2⟩ := RdI.elt (HT.out.below HB2.out) hlt; rw [HX.out] at h2; cases h2.out; exact c2))
      refine (refClass_any _ _ _ x' l _ (HR.out.below HB2.out)).mono ?_
      rintro e w2 ⟨rfl, hb2⟩
      have HB3 := Lib.hid (bthen HB2.out hb2)
      have HO2 := Lib.hid (own_below HO1.out hb2)
      clear hb2 HO1 HB2 HB1
      have gk : (k : Int) + 1 - 1 = (k : Int) := by omega
      go_wp2_with fail
      go_loopw [8] (fun r wr => ∃ (j : Nat) (u v : List Int), r = .int .i64 (j : Int) ∧ Hid (u.length = j) ∧ j ≤ k ∧ Hid ((u ++ x' :: v).length = k + 1) ∧ Hid (Ins (cls l) (text.take k) x' u v) ∧ Hid (wr.ownsRow w.heap.size 3 1 (.slice (some ⟨g, 0, none⟩) (k + 1) cap') (k + 1) ((u ++ x' :: v).flatMap encI)) ∧ Hid (Below w.heap.size w wr))
        (fun r _ => (intOf r).toNat)
      case atStart => exact ⟨k, o, [], by go_num, HL.out, by omega, by show (o ++ [x']).length = k + 1; simp [HL.out], HS.out, by show World.ownsRow _ _ _ _ _ _ _; have := HO2.out; simpa [encI] using this, HB3.out⟩
      case round =>
        clear HB3 HO2 HS HO HB HL HP
        obtain ⟨j, u, v, rfl, HUl, hjk, HVl, HI, HO, HB⟩ := hrel
        by_cases hj0 : j = 0
        · subst hj0
          have hfin := Lib.hid (ins_end hf0.out HI.out (.inl (List.eq_nil_of_length_eq_zero HUl.out)))
          go_wp2_with fail
          go_roundw
          case rel => exact ⟨k + 1, u ++ x' :: v, by omega, by go_num, HO.out, HVl.out, ⟨by rw [List.take_add_one, HX.out]; exact hfin.out.1, hfin.out.2⟩, HB.out⟩
          case measure => simp [intOf]; omega
        · have hj1 : (0 : Int) < (j : Int) := by omega
          by_cases hp : 0 < cls l x'
          · obtain ⟨j', rfl⟩ : ∃ j', j = j' + 1 := ⟨j - 1, by omega⟩
            obtain ⟨u', y, hu, hul⟩ := split_last HUl.out
            subst hu
            have HU2 := Lib.hid hul
            have cy : wr.cell? ⟨g, j', none⟩ = some (.int .i64 y) := by
              have := HO.out.cells (g := g) rfl (j' * 1 + 0) (.int .i64 y) (by rw [flat_at encI_len _ j' 0 (by rw [HVl.out]; omega) (by omega)]; subst hul; simp [encI])
              rw [Addr.add_lit] at this
              simpa using this
            have HP := Lib.hid hp
            clear hul hp
            have gj : ((j' : Int) + 1 - 1) = (j' : Int) := by omega
            have gj1 : (j' : Int) < (k : Int) + 1 := by omega
            have hp := HP.out
            go_wp2_with fail
            clear hp
            refine (refClass_any _ _ _ y l _ (HR.out.below HB.out)).mono ?_
            rintro e w3 ⟨rfl, hb3⟩
            have cy3 : w3.cell? ⟨g, j', none⟩ = some (.int .i64 y) := bcel hb3 cy
            have HB3 := Lib.hid (bthen HB.out hb3)
            have HO3 := Lib.hid (own_below HO.out hb3)
            have cx3 : w3.cell? ⟨b, off + k, none⟩ = some (.int .i64 x') := (by obtain ⟨x2, h2, c2⟩ := RdI.elt (HT.out.below HB3.out) hlt; rw [HX.out] at h2; cases h2.out; exact c2)
            clear hb3 HO HB cy
            by_cases hc : cls l x' < cls l y
            · have HC := Lib.hid hc
              clear hc
              have hc := HC.out
              have gj2 : (j' : Int) + 1 < (k : Int) + 1 := by omega
              have f1 := HO3.out.frozenAt (j' + 1)
              have f2 := HO3.out.frozenAt j'
              have hgb : ¬ b = g := by have h1 := (HO3.out.lt g rfl).1; omega
              have hgb2 : ¬ g = b := fun e => hgb e.symm
              have hst := HO3.out.stored (j' + 1) (.int .i64 y)
              have hgl := HO3.out.lt g rfl
              obtain ⟨w4, hw4⟩ : ∃ w4, w3.setCell ⟨g, j' + 1, none⟩ (.int .i64 y) = w4 := ⟨_, rfl⟩
              rw [hw4] at hst
              have f4 := hst.1.frozenAt j'
              have cz3 : w3.cell? ⟨g, j' + 1, none⟩ = some (.int .i64 x') := (by rw [HO3.out.cellAt (j' + 1) (by omega)]; have h5 := flat_at encI_len (u' ++ [y] ++ x' :: v) (j' + 1) 0 (by rw [HVl.out]; omega) (by omega); simp only [Nat.mul_one, Nat.add_zero] at h5; rw [h5]; have := HU2.out; subst this; simp [encI])
              have cy4 : w4.cell? ⟨g, j', none⟩ = some (.int .i64 y) := (by rw [← hw4, World.cell?_setCell_other w3 _ _ _ (show (⟨g, j' + 1, none⟩ : Addr) ≠ ⟨g, j', none⟩ from fun e => by injection e; omega)]; exact cy3)
              have hb4 := HB3.out.grown hst.2 (by omega) (fun r e => by cases e; exact hgl.1)
              have cx4 : w4.cell? ⟨b, off + k, none⟩ = some (.int .i64 x') := (by obtain ⟨x2, h2, c2⟩ := RdI.elt (HT.out.below hb4) hlt; rw [HX.out] at h2; cases h2.out; exact c2)
              have hst2 := hst.1.stored j' (.int .i64 x')
              rw [flat_set, flat_set, ins_move u' v y x' j' HU2.out] at hst2
              have HST := Lib.hid hst2.1
              have HB4 := Lib.hid (hb4.grown hst2.2 (by have := hst.2.size; have := hgl.1; have := hgl.2; omega) (fun r e => by cases e; exact hgl.1))
              have HI2 := Lib.hid (ins_step HI.out HC.out HP.out)
              clear hst hst2 hgl hb4
              go_wp2_with fail
              go_roundw
              case rel => exact ⟨j', u', y :: v, by go_num, HU2.out, by omega, by have := HVl.out; show (u' ++ x' :: y :: v).length = k + 1; simp at this ⊢; omega, HI2.out, HST.out, HB4.out⟩
              case measure => simp [intOf]
            · have hfin := Lib.hid (ins_end hf0.out HI.out (.inr (.inr ⟨u', y, rfl, by omega⟩)))
              go_wp2_with fail
              go_roundw
              case rel => exact ⟨k + 1, (u' ++ [y]) ++ x' :: v, by omega, by go_num, HO3.out, HVl.out, ⟨by rw [List.take_add_one, HX.out]; exact hfin.out.1, hfin.out.2⟩, HB3.out⟩
              case measure => simp [intOf]; omega
          · have hfin := Lib.hid (ins_end hf0.out HI.out (.inr (.inl (by have := hf0.out x'; omega))))
            go_wp2_with fail
            go_roundw
            case rel => exact ⟨k + 1, u ++ x' :: v, by omega, by go_num, HO.out, HVl.out, ⟨by rw [List.take_add_one, HX.out]; exact hfin.out.1, hfin.out.2⟩, HB.out⟩
            case measure => simp [intOf]; omega
    · have e : k = len := by omega
      subst e
      have hlt' : ¬ (k : Int) < (k : Int) := by omega
      go_wp2_with fail
      go_ret
      obtain ⟨A3, c3, rfl, hrd⟩ := own_rd encI_len (by omega) HO.out (by omega)
      refine ⟨A3, k, c3, o, hrd, ?_, rfl, HB.out⟩
      have := HP.out
      rwa [List.take_of_length_le (by rw [hlen.out]; exact Nat.le_refl _)] at this
end Go.Proofs.YtamekpldmplenaaDoor
