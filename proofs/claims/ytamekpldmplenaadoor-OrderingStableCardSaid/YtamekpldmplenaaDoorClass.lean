import Derived.Test.YtamekpldmplenaaDoorSearch
namespace Go.Proofs.YtamekpldmplenaaDoor
open Go.RowKit Go.Shelf

/-- A function value of the shape func(int) int that only computes: in every later world it gives f. -/
def FnII (w : World) (v : Value) (f : Int → Int) : Prop :=
  ∃ g cb, v = .func (.func g) #[] cb ∧ Enters Tryd.prog g ∧ ∀ (W : World) (c : Int), Below w.heap.size w W → Calls Tryd.prog g (#[.int .i64 c] ++ cb) W fun e w' => e = .returned (.int .i64 (f c)) ∧ Below W.heap.size W w'
theorem FnII.below {w w1 : World} {v : Value} {f : Int → Int} (h : FnII w v f) (hb : Below w.heap.size w w1) : FnII w1 v f := by
  obtain ⟨g, cb, e, he, hc⟩ := h
  exact ⟨g, cb, e, he, fun W c hW => hc W c (bthen hb hW)⟩

set_option maxHeartbeats 400000 in
theorem find1_any (c : Int) (w : World) : Calls Tryd.prog 48 #[.int .i64 c] w fun e w' => e = .returned (.int .i64 0) ∧ Below w.heap.size w w' := by
  go_enter Tryd.func48, Tryd.ntmps48
  go_wp2
  go_ret
  exact ⟨rfl, Below.refl _ _⟩

set_option maxHeartbeats 1000000 in
theorem find2_any (A : Option Addr) (n cp B : Nat) (x : Int) (l : List Sp) (w : World) (hR : RdSp w A n l) (h0 : chk l = 0)
   (hc : w.cell? ⟨B, 0, none⟩ = some (.slice A n cp)) :
    Calls Tryd.prog 49 #[.int .i64 x, .pointer (some ⟨B, 0, none⟩)] w fun e w' => e = .returned (.int .i64 (cls l x)) ∧ Below w.heap.size w w' := by
  have hn := hR.bd
  have HR := Lib.hid hR
  have HC := Lib.hid hc
  have hlen := Lib.hid hR.len
  have H0 := Lib.hid h0
  have hBs := World.block_lt_of_cell? w _ hc
  have hBs' : B < w.heap.size := hBs
  clear hR h0 hBs
  go_enter Tryd.func49, Tryd.ntmps49
  go_wp2_with (go_at_call 50; refine (search_any A n cp B w.heap.size x l _ (HR.out.below ((Below.refl _ _).alloc (Nat.le_refl _) _)) (by go_simp) (by go_simp)).mono ?_; rintro e w1 ⟨r, ⟨hr, hL, hU⟩, rfl, hb⟩; have HL := Lib.hid hL; have HU := Lib.hid hU; clear hL hU)
  have hb0 := bthen ((Below.refl _ _).alloc (Nat.le_refl _) _) hb
  have hc1 := bcel hb0 hc
  have hx1 : w1.cell? ⟨w.heap.size, 0, none⟩ = some (.int .i64 x) := bcel hb (by go_simp)
  have hB1 : B < w1.heap.size := Nat.lt_of_lt_of_le hBs' hb0.size
  have HB := Lib.hid hb0
  have HR1 := Lib.hid (HR.out.below hb0)
  clear hb hb0 hc HC HR
  by_cases hlt : r < n
  · obtain ⟨b, o, rfl⟩ := HR1.out.addr (by omega)
    obtain ⟨lo, hi, val, hs, c0, c1, c2⟩ := RdSp.elt HR1.out hlt
    have hlt' : (r : Int) < (n : Int) := by omega
    have hU := HU.out _ hs.out
    replace hU : x ≤ hi := hU
    by_cases hlo : lo ≤ x
    · have hf := Lib.hid (cls_found l H0.out x r _ hs.out hlo hU)
      go_quiet (fail)
      go_wp2
      go_ret
      exact ⟨ret_int hf.out.symm, bdrewN HB.out _⟩
    · have hf := Lib.hid (cls_out l H0.out x r (by rw [hlen.out]; exact hr) HL.out (fun s h => by rw [hs.out] at h; cases h; show x < lo; omega))
      have hd := decide_eq_false hlo
      go_quiet (fail)
      go_wp2
      go_ret
      exact ⟨ret_int hf.out.symm, bdrewN HB.out _⟩
  · have hd : decide ((r : Int) < (n : Int)) = false := decide_eq_false (by omega)
    have hf := Lib.hid (cls_out l H0.out x r (by rw [hlen.out]; exact hr) HL.out (fun s h => by have := (List.getElem?_eq_some_iff.1 h).1; rw [hlen.out] at this; omega))
    go_quiet (fail)
    go_wp2
    go_ret
    exact ⟨ret_int hf.out.symm, bdrewN HB.out _⟩

set_option maxHeartbeats 400000 in
theorem finder_any (A : Option Addr) (n cp : Nat) (l : List Sp) (w : World) (hR : RdSp w A n l) (hG : Glob w) :
    Calls Tryd.prog 37 #[.slice A n cp] w fun e w' => ∃ v, FnII w' v (cls l) ∧ e = .returned v ∧ Below w.heap.size w w' := by
  have hn := hR.bd
  have HR := Lib.hid hR; have HG := Lib.hid hG
  have e48 := Lib.hid (enters_of Tryd.func48 (by kernel_rfl) rfl)
  have e49 := Lib.hid (enters_of Tryd.func49 (by kernel_rfl) rfl)
  clear hR hG
  have hb1 := Lib.hid ((Below.refl _ w).alloc (Nat.le_refl _) (.cells #[.slice A n cp] 22))
  by_cases hk : chk l = 0
  · go_enter Tryd.func37, Tryd.ntmps37
    go_wp2_with (go_at_call 13; refine (check_any _ _ _ l _ (HR.out.below hb1.out) (HG.out.below hb1.out)).mono ?_; rintro e w1 ⟨rfl, hb⟩; rw [hk])
    go_ret
    refine ⟨_, ⟨_, _, rfl, e49.out, fun W c hW => ?_⟩, rfl, bthen hb1.out hb⟩
    have hc : w1.cell? ⟨w.heap.size, 0, none⟩ = some (.slice A n cp) := bcel hb (by go_simp)
    exact find2_any A n cp w.heap.size c l W ((HR.out.below (bthen hb1.out hb)).below hW) hk (bcel hW hc)
  · have hk' := bne_iff_ne.2 hk
    go_enter Tryd.func37, Tryd.ntmps37
    go_wp2_with (go_at_call 13; refine (check_any _ _ _ l _ (HR.out.below hb1.out) (HG.out.below hb1.out)).mono ?_; rintro e w1 ⟨rfl, hb⟩)
    go_ret
    refine ⟨_, ⟨_, #[], rfl, e48.out, fun W c hW => ?_⟩, rfl, bthen hb1.out hb⟩
    exact (find1_any c W).mono fun e w' ⟨he, hb⟩ => ⟨by rw [he, cls_bad l hk], hb⟩

set_option maxHeartbeats 400000 in
theorem class_any (A : Option Addr) (n cp : Nat) (x : Int) (l : List Sp) (w : World) (hR : RdSp w A n l) (hG : Glob w) :
    Calls Tryd.prog 20 #[.slice A n cp, .int .i64 x] w fun e w' => e = .returned (.int .i64 (cls l x)) ∧ Below w.heap.size w w' := by
  have HR := Lib.hid hR; have HG := Lib.hid hG
  clear hR hG
  go_enter Tryd.func20, Tryd.ntmps20
  go_wp2_with (go_at_call 37; refine (finder_any _ _ _ l _ HR.out HG.out).mono ?_; rintro e w1 ⟨v, ⟨g, cb, rfl, he, hc⟩, rfl, hb⟩; have HC := Lib.hid hc; clear hc; have he' : ∀ args w, (callFunc g args).run Tryd.prog w = .ok (.enter g args) w := he; clear he)
  refine (HC.out w1 x (Below.refl _ _)).mono ?_
  rintro e w2 ⟨rfl, hb2⟩
  go_wp2
  go_ret
  exact ⟨rfl, bthen hb hb2⟩

set_option maxHeartbeats 400000 in
theorem starter_any (A : Option Addr) (n cp : Nat) (x : Int) (l : List Sp) (w : World) (hR : RdSp w A n l) (hG : Glob w) :
    Calls Tryd.prog 26 #[.slice A n cp, .int .i64 x] w fun e w' => e = .returned (.bool (cls l x == 0)) ∧ Below w.heap.size w w' := by
  have HR := Lib.hid hR; have HG := Lib.hid hG
  clear hR hG
  go_enter Tryd.func26, Tryd.ntmps26
  go_wp2_with (go_at_call 20; refine (class_any _ _ _ x l _ HR.out HG.out).mono ?_; rintro e w1 ⟨rfl, hb⟩)
  go_ret
  exact ⟨rfl, hb⟩
end Go.Proofs.YtamekpldmplenaaDoor
