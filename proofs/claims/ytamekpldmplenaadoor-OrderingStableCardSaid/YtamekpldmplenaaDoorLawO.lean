/- The elements of one class: the law's helper, walked. -/
import Derived.Test.YtamekpldmplenaaDoorAlive
import Derived.Test.YtamekpldmplenaaDoorAppI
namespace Go.Proofs.YtamekpldmplenaaDoor
open Go.RowKit Go.Shelf

theorem fil_step {p : Int → Bool} {text : List Int} {k : Nat} {x : Int} (h : text[k]? = some x) : (text.take (k + 1)).filter p = (text.take k).filter p ++ if p x = true then [x] else [] := by
  rw [List.take_add_one, h, List.filter_append]
  by_cases e : p x = true
  · simp [e]
  · simp [e]

set_option maxHeartbeats 2000000 in
theorem of_any (A : Option Addr) (n c : Nat) (l : List Sp) (A' : Option Addr) (len cap : Nat) (text : List Int) (q : Int) (w : World) (hR : RdSp w A n l) (hT : RdI w A' len text) (hG : Glob w) (hbig : len ≤ 1000000000) :
    Calls Tryd.prog 24 #[.slice A n c, .slice A' len cap, .int .i64 q] w (IntsPost (fun ys => ys = text.filter (fun x => cls l x == q)) w) := by
  have HR := Lib.hid hR; have HT := Lib.hid hT; have HG := Lib.hid hG
  have hlen := Lib.hid hT.len
  clear hR hT hG
  go_enter Tryd.func24, Tryd.ntmps24
  go_wp2_with fail
  go_loopw [7, 8] (fun s r wr => ∃ (k m : Nat) (o : List Int), k ≤ len ∧ m ≤ k ∧ r = .int .i64 (k : Int) ∧ Hid (wr.ownsRow w.heap.size 3 1 s m (o.flatMap encI)) ∧ Hid (o.length = m) ∧ Hid (o = (text.take k).filter (fun x => cls l x == q)) ∧ Hid (Below w.heap.size w wr))
    (fun _ r _ => len - (intOf r).toNat)
  case atStart => exact ⟨0, 0, [], by omega, by omega, by go_num, World.ownsRow_nil _ _ _ _, rfl, by show [] = _; simp, Below.refl _ _⟩
  case round =>
    obtain ⟨k, m, o, hk, hm, rfl, HO, HL, HP, HB⟩ := hrel
    by_cases hlt : k < len
    · obtain ⟨b, off, rfl⟩ := HT.out.addr (by omega)
      obtain ⟨x, hx, cx⟩ := RdI.elt (HT.out.below HB.out) hlt
      have hlt' : (k : Int) < (len : Int) := by omega
      have HX := Lib.hid (show text[k]? = some x from hx.out)
      clear hx
      obtain ⟨wo, rfl⟩ : ∃ wo : World, wo = wr := ⟨_, rfl⟩
      by_cases hc : cls l x = q
      · have e0 : (cls l x == q) = true := beq_iff_eq.2 hc
        have hn := Lib.hid (show (text.take (k + 1)).filter (fun x => cls l x == q) = (text.take k).filter (fun x => cls l x == q) ++ [x] by rw [fil_step HX.out, if_pos e0])
        clear hc
        go_wp2_with fail
        refine (class_any _ _ _ x l _ (HR.out.below HB.out) (HG.out.below HB.out)).mono ?_
        rintro e w1 ⟨rfl, hb⟩
        have HB1 := Lib.hid (bthen HB.out hb)
        have HO1 := Lib.hid (own_below HO.out hb)
        have cx1 : w1.cell? ⟨b, off + k, none⟩ = some (.int .i64 x) := bcel hb cx
        have hle : w.heap.size ≤ w1.heap.size := HB1.out.size
        have HBA := Lib.hid (HB1.out.trans ((ba w1 (.cells #[.int .i64 x] 3)).mono hle))
        clear hb
        have hl1 := litI w1 #[.int .i64 x] 3 1 [x] rfl (by omega) rfl
        have HL1 := Lib.hid hl1
        clear hl1
        go_wp2_with (at_builtin; refine wpList_append_ints rfl _ _ rfl w.heap.size _ m o rfl (HO1.out.alloc _) (some ⟨w1.heap.size, 0, none⟩) 1 1 [x] rfl HL1.out (by omega) HBA.out.size ?_; intro v2 w2 hown hbel; have HO2 := Lib.hid hown; have HB2 := Lib.hid (HBA.out.trans hbel); clear hown hbel)
        go_roundw
        case rel => exact ⟨k + 1, m + 1, o ++ [x], by omega, by omega, by go_num, HO2.out, by show (o ++ [x]).length = _; rw [List.length_append, HL.out]; rfl, by show o ++ [x] = _; rw [hn.out, HP.out], HB2.out⟩
        case measure => simp [intOf]; omega
      · have e0 : (cls l x == q) = false := beq_eq_false_iff_ne.2 hc
        have hn := Lib.hid (show (text.take (k + 1)).filter (fun x => cls l x == q) = (text.take k).filter (fun x => cls l x == q) by rw [fil_step HX.out, if_neg (by simp [e0])]; simp)
        clear hc
        go_wp2_with fail
        refine (class_any _ _ _ x l _ (HR.out.below HB.out) (HG.out.below HB.out)).mono ?_
        rintro e w1 ⟨rfl, hb⟩
        have HB1 := Lib.hid (bthen HB.out hb)
        have HO1 := Lib.hid (own_below HO.out hb)
        clear hb
        go_wp2_with fail
        go_roundw
        case rel => exact ⟨k + 1, m, o, by omega, by omega, by go_num, HO1.out, HL.out, by show o = _; rw [hn.out, HP.out], HB1.out⟩
        case measure => simp [intOf]; omega
    · have e : k = len := by omega
      subst e
      have hlt' : ¬ (k : Int) < (k : Int) := by omega
      go_wp2_with fail
      go_ret
      obtain ⟨A3, c3, rfl, hrd⟩ := own_rd encI_len (by omega) HO.out (by omega)
      refine ⟨A3, m, c3, o, hrd, ?_, rfl, HB.out⟩
      have := HP.out
      rwa [List.take_of_length_le (by rw [hlen.out]; exact Nat.le_refl _)] at this
end Go.Proofs.YtamekpldmplenaaDoor
