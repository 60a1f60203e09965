/- decompose.Check. -/
import Derived.Test.YtfeofhinpgodoaaGreatDoorGB
import Derived.Test.YtfeofhinpgodoaaGreatDoorGA
import Derived.Handy
import Derived.Maps.RangeWalk
import Derived.Laws.EntriesVeiled
namespace Go.Proofs.YtfeofhinpgodoaaGreatDoor
open Go.RowKit Go.Shelf

/-- A function of mappings that says p. -/
def FnM (w : World) (g : FuncId) (cb : Array Value) (p : Mp → Bool) : Prop :=
  ∀ (m : Mp) (A : Option Addr) (n c : Nat) (W : World), Below w.heap.size w W → RdI W A n m.to → Calls Tryz.prog g (#[.agg #[.int .i64 m.frm, .slice A n c, .string m.tag]] ++ cb) W fun e w' => e = .returned (.bool (p m)) ∧ Below W.heap.size W w'

/-- An index that is not negative where Q holds. -/
def IdxPost (Q : Prop) (w : World) (e : Ending) (w' : World) : Prop := ∃ i : Int, e = .returned (.int .i64 i) ∧ (0 ≤ i ↔ Q) ∧ Below w.heap.size w w'

set_option maxRecDepth 100000 in
set_option maxHeartbeats 2000000 in
theorem indexM_any (A : Option Addr) (n c : Nat) (l : List Mp) (g : FuncId) (cb : Array Value) (p : Mp → Bool) (w : World) (hR : RdMp w A n l) (he : Enters Tryz.prog g) (hp : FnM w g cb p) :
    Calls Tryz.prog 142 #[.slice A n c, .func (.func g) #[] cb] w (IdxPost (l.any p = true) w) := by
  have hn := hR.bd
  have HL := Lib.hid hR.len
  have HR := Lib.hid hR
  have HC := Lib.hid hp
  have he' : ∀ args w, (callFunc g args).run Tryz.prog w = .ok (.enter g args) w := he
  clear hR he hp
  go_enter Tryz.func142, Tryz.ntmps142
  go_wp2_with fail
  go_loopw [8] (fun r wr => ∃ k : Nat, k ≤ n ∧ r = .int .i64 (k : Int) ∧ Hid (Below w.heap.size w wr) ∧ Hid (∀ (i : Nat) (m : Mp), i < k → l[i]? = some m → p m = false)) (fun r _ => n - (intOf r).toNat)
  case atStart => exact ⟨0, by omega, by go_num, Below.refl _ _, fun i m h => by omega⟩
  case round =>
    obtain ⟨k, hk, rfl, HB, HP⟩ := hrel
    obtain ⟨wo, rfl⟩ : ∃ wo : World, wo = wr := ⟨_, rfl⟩
    by_cases hlt : k < n
    · obtain ⟨b, o, rfl⟩ := HR.out.addr (by omega)
      obtain ⟨m, A', n', c', hm, c0, c1, c2, hT, _⟩ := RdMp.elt (HR.out.below HB.out) hlt
      have HM := Lib.hid (show l[k]? = some m from hm.out)
      have HT := Lib.hid (show RdI wo A' n' m.to from hT.out)
      clear hm hT
      have hlt' : (k : Int) < (n : Int) := by omega
      go_wp2_with fail
      refine (HC.out m A' n' c' wo HB.out HT.out).mono ?_
      rintro e w1 ⟨rfl, hb⟩
      have HB1 := Lib.hid (bthen HB.out hb)
      clear hb
      cases hpm : p m
      · have H0 := Lib.hid hpm
        clear hpm
        go_wp2_with fail
        go_roundw
        case rel => exact ⟨k + 1, by omega, by go_num, HB1.out, uptoM_step HP.out HM.out H0.out⟩
        case measure => simp [intOf]; omega
      · have H0 := Lib.hid (show l.any p = true from List.any_eq_true.2 ⟨m, List.mem_of_getElem? HM.out, hpm⟩)
        clear hpm
        go_wp2_with fail
        go_ret
        exact ⟨k, rfl, ⟨fun _ => H0.out, fun _ => by omega⟩, HB1.out⟩
    · have e : k = n := by omega
      subst e
      have hlt' : ¬ (k : Int) < (k : Int) := by omega
      have H0 := Lib.hid (show l.any p = false from List.any_eq_false.2 fun m hm => by rw [upto_all HP.out HL.out m hm]; simp)
      go_wp2_with fail
      go_ret
      exact ⟨-1, rfl, ⟨fun h => by omega, fun ⟨x, hx, hpx⟩ => absurd hpx (List.any_eq_false.1 H0.out x hx)⟩, HB.out⟩

set_option maxHeartbeats 1000000 in
theorem containsM_any (A : Option Addr) (n c : Nat) (l : List Mp) (g : FuncId) (cb : Array Value) (p : Mp → Bool) (w : World) (hR : RdMp w A n l) (he : Enters Tryz.prog g) (hp : FnM w g cb p) :
    Calls Tryz.prog 112 #[.slice A n c, .func (.func g) #[] cb] w fun e w' => e = .returned (.bool (l.any p)) ∧ Below w.heap.size w w' := by
  have HR := Lib.hid hR; have HE := Lib.hid he; have HC := Lib.hid hp
  clear hR he hp
  go_enter Tryz.func112, Tryz.ntmps112
  go_wp2_with fail
  refine (indexM_any A n c l g cb p w HR.out HE.out HC.out).mono ?_
  rintro e w1 ⟨i, rfl, hi, hb⟩
  have HI := Lib.hid (show decide (0 ≤ i) = l.any p by rw [Bool.eq_iff_iff, decide_eq_true_iff]; exact hi)
  clear hi
  go_wp2_with fail
  go_ret
  exact ⟨ret_bool HI.out, hb⟩

def kd1 (m : Mp) : Bool := decide (m.tag.size = 0 ∧ m.to.length ≠ 1 ∧ m.to.length ≠ 2)
def kd2 (sp : List Sp) (m : Mp) : Bool := decide (kindF m.frm ≠ 0 ∨ (m.tag.size ≠ 0 ∧ cls sp m.frm ≠ 0))

set_option maxHeartbeats 1000000 in
theorem kinds1_any (w : World) : FnM w 113 #[] kd1 := by
  intro m A n c W _ hT
  have hl := hT.len
  obtain ⟨frm, tag, to⟩ := m
  have hsz : tag.toList.isEmpty = decide (tag.size = 0) := bytes_isEmpty tag
  by_cases h0 : tag.size = 0
  · have he : tag.toList.isEmpty = true := hsz.trans (decide_eq_true h0)
    by_cases h1 : n = 1
    · have HK := Lib.hid (show kd1 ⟨frm, tag, to⟩ = false from decide_eq_false (fun h => h.2.1 (hl.trans h1)))
      have h1' : ((n : Int) != 1) = false := by simp; omega
      clear hsz h0 h1 hT hl
      go_enter Tryz.func113, Tryz.ntmps113
      go_wp2_with fail
      go_ret
      exact ⟨ret_bool HK.out.symm, (Below.refl _ _).alloc (Nat.le_refl _) _⟩
    · have h1' : ((n : Int) != 1) = true := bne_iff_ne.2 (by omega)
      by_cases h2 : n = 2
      · have HK := Lib.hid (show kd1 ⟨frm, tag, to⟩ = false from decide_eq_false (fun h => h.2.2 (hl.trans h2)))
        have h2' : ((n : Int) != 2) = false := by simp; omega
        clear hsz h0 h1 h2 hT hl
        go_enter Tryz.func113, Tryz.ntmps113
        go_wp2_with fail
        go_ret
        exact ⟨ret_bool HK.out.symm, (Below.refl _ _).alloc (Nat.le_refl _) _⟩
      · have HK := Lib.hid (show kd1 ⟨frm, tag, to⟩ = true from decide_eq_true ⟨h0, fun h => h1 (hl.symm.trans h), fun h => h2 (hl.symm.trans h)⟩)
        have h2' : ((n : Int) != 2) = true := bne_iff_ne.2 (by omega)
        clear hsz h0 h1 h2 hT hl
        go_enter Tryz.func113, Tryz.ntmps113
        go_wp2_with fail
        go_ret
        exact ⟨ret_bool HK.out.symm, (Below.refl _ _).alloc (Nat.le_refl _) _⟩
  · have he : tag.toList.isEmpty = false := hsz.trans (decide_eq_false h0)
    have HK := Lib.hid (show kd1 ⟨frm, tag, to⟩ = false from decide_eq_false (fun h => h0 h.1))
    clear hsz h0 hT hl
    go_enter Tryz.func113, Tryz.ntmps113
    go_wp2_with fail
    go_ret
    exact ⟨ret_bool HK.out.symm, (Below.refl _ _).alloc (Nat.le_refl _) _⟩

set_option maxHeartbeats 2000000 in
theorem kinds2_any (B A1 : Nat) (As : Option Addr) (ns cs : Nat) (sp : List Sp) (w : World) (hB : w.cell? ⟨B, 0, none⟩ = some (.slice As ns cs)) (hS : RdSp w As ns sp) (hG : Glob w) : FnM w 114 #[.pointer (some ⟨B, 0, none⟩)] (kd2 sp) := by
  intro m A n c W hbw hT
  obtain ⟨frm, tag, to⟩ := m
  have hsz : tag.toList.isEmpty = decide (tag.size = 0) := bytes_isEmpty tag
  have cB := bcel hbw hB
  have HS := Lib.hid (hS.below hbw)
  have HG := Lib.hid (hG.below hbw)
  have hBl := World.block_lt_of_cell? W _ cB
  have HBa := Lib.hid ((Below.refl W.heap.size W).alloc (Nat.le_refl _) (.cells #[.int .i64 frm, .slice A n c, .string tag] 56))
  clear hB hS hG hT hbw
  by_cases h0 : kindF frm = 0
  · have h0' : (kindF frm != 0) = false := by simp [h0]
    by_cases h1 : tag.size = 0
    · have he : tag.toList.isEmpty = true := hsz.trans (decide_eq_true h1)
      have HK := Lib.hid (show kd2 sp ⟨frm, tag, to⟩ = false from decide_eq_false (fun h => h.elim (fun k => k h0) (fun k => k.1 h1)))
      clear hsz h0 h1
      go_enter Tryz.func114, Tryz.ntmps114
      go_wp2_with fail
      refine (kind_any frm _).mono ?_
      rintro e w1 ⟨rfl, hb⟩
      have HB1 := Lib.hid (bthen HBa.out hb)
      have f0 : w1.cell? ⟨W.heap.size, 0, none⟩ = some (.int .i64 frm) := bcel hb (by go_simp)
      have f2 : w1.cell? ⟨W.heap.size, 2, none⟩ = some (.string tag) := bcel hb (by go_simp)
      clear hb
      go_wp2_with fail
      go_ret
      exact ⟨ret_bool HK.out.symm, HB1.out⟩
    · have he : tag.toList.isEmpty = false := hsz.trans (decide_eq_false h1)
      have HK := Lib.hid (show kd2 sp ⟨frm, tag, to⟩ = !(cls sp frm == 0) by
        rw [Bool.eq_iff_iff, kd2]; simp [h0, h1])
      clear hsz h0 h1
      go_enter Tryz.func114, Tryz.ntmps114
      go_wp2_with fail
      refine (kind_any frm _).mono ?_
      rintro e w1 ⟨rfl, hb⟩
      have HB1 := Lib.hid (bthen HBa.out hb)
      have f0 : w1.cell? ⟨W.heap.size, 0, none⟩ = some (.int .i64 frm) := bcel hb (by go_simp)
      have f2 : w1.cell? ⟨W.heap.size, 2, none⟩ = some (.string tag) := bcel hb (by go_simp)
      have cB1 := bcel HB1.out cB
      clear hb
      go_wp2_with fail
      refine (starter_any _ _ _ frm sp _ (HS.out.below HB1.out) (HG.out.below HB1.out)).mono ?_
      rintro e w2 ⟨rfl, hb⟩
      have HB2 := Lib.hid (bthen HB1.out hb)
      clear hb
      go_wp2_with fail
      go_ret
      exact ⟨ret_bool HK.out.symm, HB2.out⟩
  · have h0' : (kindF frm != 0) = true := bne_iff_ne.2 h0
    have HK := Lib.hid (show kd2 sp ⟨frm, tag, to⟩ = true from decide_eq_true (.inl h0))
    clear hsz h0
    go_enter Tryz.func114, Tryz.ntmps114
    go_wp2_with fail
    refine (kind_any frm _).mono ?_
    rintro e w1 ⟨rfl, hb⟩
    have HB1 := Lib.hid (bthen HBa.out hb)
    clear hb
    go_wp2_with fail
    go_ret
    exact ⟨ret_bool HK.out.symm, HB1.out⟩

/-- Neighbours are of different code points. -/
def AdjNe (l : List Mp) : Prop := ∀ (j : Nat) (a b : Mp), l[j]? = some a → l[j + 1]? = some b → a.frm ≠ b.frm
open Classical in
noncomputable def kindsE (sp : List Sp) (l : List Mp) : Int := if ¬ AdjNe l then 5 else if l.any kd1 = true then 8 else if l.any (kd2 sp) = true then 11 else 0

set_option maxRecDepth 100000 in
set_option maxHeartbeats 4000000 in
theorem kinds_any (A1 A2 A3 : Option Addr) (n1 c1 n2 c2 n3 c3 : Nat) (sp : List Sp) (l : List Mp) (w : World) (hS : RdSp w A1 n1 sp) (hM : RdMp w A2 n2 l) (hG : Glob w) :
    Calls Tryz.prog 79 #[.agg #[.slice A1 n1 c1, .slice A2 n2 c2, .slice A3 n3 c3]] w fun e w' => e = .returned (.int .i64 (kindsE sp l)) ∧ Below w.heap.size w w' := by
  have hn := hM.bd
  have HL := Lib.hid hM.len
  obtain ⟨W0, hW0⟩ : ∃ W0, W0 = w.alloc (.cells #[.slice A1 n1 c1, .slice A2 n2 c2, .slice A3 n3 c3] 28) := ⟨_, rfl⟩
  have hb0 : Below w.heap.size w W0 := by rw [hW0]; exact (Below.refl _ _).alloc (Nat.le_refl _) _
  have b0 : W0.cell? ⟨w.heap.size, 0, none⟩ = some (.slice A1 n1 c1) := by rw [hW0]; go_simp
  have b1 : W0.cell? ⟨w.heap.size, 1, none⟩ = some (.slice A2 n2 c2) := by rw [hW0]; go_simp
  have HB0 := Lib.hid hb0
  have HS := Lib.hid (hS.below hb0); have HM := Lib.hid (hM.below hb0); have HG := Lib.hid (hG.below hb0)
  clear hS hM hG hb0
  go_enter Tryz.func79, Tryz.ntmps79
  go_wp2_with fail
  rw [← hW0]
  clear hW0
  go_loopw [4] (fun r wr => ∃ k : Nat, 1 ≤ k ∧ (k ≤ n2 ∨ k = 1) ∧ r = .int .i64 (k : Int) ∧ Hid (Below W0.heap.size W0 wr) ∧ Hid (∀ (j : Nat) (a b : Mp), j + 1 < k → l[j]? = some a → l[j + 1]? = some b → a.frm ≠ b.frm)) (fun r _ => n2 - (intOf r).toNat)
  case atStart => exact ⟨1, by omega, by omega, by go_num, Below.refl _ _, fun j a b h => by omega⟩
  case round =>
    obtain ⟨k, hk1, hk2, rfl, HB, HP⟩ := hrel
    obtain ⟨wo, rfl⟩ : ∃ wo : World, wo = wr := ⟨_, rfl⟩
    by_cases hlt : k < n2
    · obtain ⟨j, rfl⟩ : ∃ j, k = j + 1 := ⟨k - 1, by omega⟩
      obtain ⟨b, o, rfl⟩ := HM.out.addr (by omega)
      obtain ⟨x, Ax, nx, cx, hx, cx0, cx1, cx2, _, _⟩ := RdMp.elt (HM.out.below HB.out) (show j < n2 by omega)
      obtain ⟨y, Ay, ny, cy, hy, cy0, cy1, cy2, _, _⟩ := RdMp.elt (HM.out.below HB.out) hlt
      have HX := Lib.hid (show l[j]? = some x from hx.out)
      have HY := Lib.hid (show l[j + 1]? = some y from hy.out)
      clear hx hy
      have g1 : (j : Int) + 1 < (n2 : Int) := by omega
      have g2 : (j : Int) < (n2 : Int) := by omega
      have g3 : (j : Int) + 1 - 1 = (j : Int) := by omega
      by_cases he : x.frm = y.frm
      · have HE := Lib.hid (show kindsE sp l = 5 by rw [kindsE, if_pos]; intro h; exact h j x y HX.out HY.out he)
        have he' := beq_iff_eq.2 he
        clear he
        go_wp2_with fail
        go_quiet (fail)
        go_wp2_with fail
        go_ret
        exact ⟨ret_int HE.out.symm, bdrewN (bthen HB0.out HB.out) _⟩
      · have he' := beq_eq_false_iff_ne.2 he
        have HN := Lib.hid he
        clear he
        go_wp2_with fail
        go_quiet (fail)
        go_wp2_with fail
        go_roundw
        case rel =>
          refine ⟨j + 2, by omega, by omega, by go_num, bdrewN HB.out _, fun i a b hi ha hb => ?_⟩
          rcases Nat.lt_or_ge i j with h1 | h1
          · exact HP.out i a b (by omega) ha hb
          · obtain rfl : i = j := by omega
            rw [HX.out] at ha; cases ha
            rw [HY.out] at hb; cases hb
            exact HN.out
        case measure => simp [intOf]; omega
    · have hlt' : ¬ (k : Int) < (n2 : Int) := by omega
      have HA := Lib.hid (show AdjNe l from fun j a b ha hb => HP.out j a b (by have := (List.getElem?_eq_some_iff.1 hb).1; have := HL.out; omega) ha hb)
      have HBw := Lib.hid (bthen HB0.out HB.out)
      have b0w := bcel HB.out b0
      have HE1 := Lib.hid (enters_of Tryz.func113 (by kernel_rfl) rfl)
      have HE2 := Lib.hid (enters_of Tryz.func114 (by kernel_rfl) rfl)
      clear HP
      go_wp2_with fail
      refine (containsM_any A2 n2 c2 l 113 #[] kd1 _ (HM.out.below HB.out) HE1.out (kinds1_any _)).mono ?_
      rintro e w1 ⟨rfl, hb⟩
      have HB1 := Lib.hid (bthen HBw.out hb)
      have HBa := Lib.hid (bthen HB.out hb)
      clear hb
      cases h1 : l.any kd1
      · have H1 := Lib.hid h1
        clear h1
        go_wp2_with fail
        refine (containsM_any A2 n2 c2 l 114 #[.pointer (some ⟨w.heap.size, 0, none⟩)] (kd2 sp) _ (HM.out.below HBa.out) HE2.out (kinds2_any w.heap.size 0 A1 n1 c1 sp _ (bcel HBa.out b0) (HS.out.below HBa.out) (HG.out.below HBa.out))).mono ?_
        rintro e w2 ⟨rfl, hb⟩
        have HB2 := Lib.hid (bthen HB1.out hb)
        clear hb
        cases h2 : l.any (kd2 sp)
        · have HE := Lib.hid (show kindsE sp l = 0 by rw [kindsE, if_neg (fun h => h HA.out), if_neg (by rw [H1.out]; simp), if_neg (by rw [h2]; simp)])
          clear h2
          go_wp2_with fail
          go_ret
          exact ⟨ret_int HE.out.symm, HB2.out⟩
        · have HE := Lib.hid (show kindsE sp l = 11 by rw [kindsE, if_neg (fun h => h HA.out), if_neg (by rw [H1.out]; simp), if_pos h2])
          clear h2
          go_wp2_with fail
          go_ret
          exact ⟨ret_int HE.out.symm, HB2.out⟩
      · have HE := Lib.hid (show kindsE sp l = 8 by rw [kindsE, if_neg (fun h => h HA.out), if_pos h1])
        clear h1
        go_wp2_with fail
        go_ret
        exact ⟨ret_int HE.out.symm, HB1.out⟩
end Go.Proofs.YtfeofhinpgodoaaGreatDoor

namespace Go.Proofs.YtfeofhinpgodoaaGreatDoor
open Go.RowKit Go.Shelf

def hL (c : Int) : Int := 4352 + (c - 44032) / 28 / 21
def hV (c : Int) : Int := 4449 + (c - 44032) / 28 % 21
def hT (c : Int) : Int := (c - 44032) % 28
def isSyl (c : Int) : Prop := 44032 ≤ c ∧ c < 55204
instance (c : Int) : Decidable (isSyl c) := inferInstanceAs (Decidable (_ ∧ _))
/-- The parts of a syllable; another number alone. -/
def hdec (c : Int) : List Int := if isSyl c then (if hT c = 0 then [hL c, hV c] else [hL c, hV c, 4520 + hT c - 1]) else [c]

set_option maxHeartbeats 2000000 in
theorem parts_any (c : Int) (w : World) (h : isSyl c) :
    Calls Tryz.prog 154 #[.int .i64 c] w fun e w' => e = .returned (.agg #[.int .i64 (hL c), .int .i64 (hV c), .int .i64 (if hT c = 0 then 0 else 4520 + hT c - 1)]) ∧ Below w.heap.size w w' := by
  obtain ⟨i, rfl⟩ : ∃ i : Nat, c = 44032 + (i : Int) := ⟨(c - 44032).toNat, by unfold isSyl at h; omega⟩
  have hi : i < 11172 := by unfold isSyl at h; omega
  have e1 : hL (44032 + (i : Int)) = 4352 + (i : Int) / 28 / 21 := by unfold hL; omega
  have e2 : hV (44032 + (i : Int)) = 4449 + (i : Int) / 28 % 21 := by unfold hV; omega
  have e3 : hT (44032 + (i : Int)) = (i : Int) % 28 := by unfold hT; omega
  rw [e1, e2, e3]
  have g0 : 44032 + (i : Int) - 44032 = (i : Int) := by omega
  clear e1 e2 e3 h
  obtain ⟨T, hT⟩ : ∃ T, T = (if (i : Int) % 28 = 0 then 0 else 4520 + (i : Int) % 28 - 1) := ⟨_, rfl⟩
  rw [← hT]
  have HT := Lib.hid hT
  clear hT
  by_cases ht : (i : Int) % 28 = 0
  · have g1 : ¬ 0 < (i : Int) % 28 := by omega
    have hT0 : T = 0 := by rw [HT.out, if_pos ht]
    subst hT0
    clear ht
    go_enter Tryz.func154, Tryz.ntmps154
    go_wp2_with fail
    all_goals go_returns
    exact ⟨rfl, (by repeat (first | exact Below.refl _ _ | refine Below.alloc ?_ (by first | exact Nat.le_refl _ | (simp; done) | (simp; omega)) _ | refine Below.drew ?_))⟩
  · have g1 : 0 < (i : Int) % 28 := by omega
    have hT0 : T = 4520 + (i : Int) % 28 - 1 := by rw [HT.out, if_neg ht]
    subst hT0
    clear ht
    go_enter Tryz.func154, Tryz.ntmps154
    go_wp2_with fail
    all_goals go_returns
    exact ⟨rfl, (by repeat (first | exact Below.refl _ _ | refine Below.alloc ?_ (by first | exact Nat.le_refl _ | (simp; done) | (simp; omega)) _ | refine Below.drew ?_))⟩

theorem eqA3 (d : Nat) (w : World) (x0 x1 x2 y0 y1 y2 : Int) :
    (Op.equalIn (d + 2) 36 (.agg #[.int .i64 x0, .int .i64 x1, .int .i64 x2]) (.agg #[.int .i64 y0, .int .i64 y1, .int .i64 y2])).run Tryz.prog w = .ok (x0 == y0 && (x1 == y1 && (x2 == y2))) w := by
  obtain ⟨i0, hi, hz0, hz1, hz2⟩ := info_parts infoI
  have hc : Tryz.prog.cellsOf 3 = 1 := by kernel_rfl
  have p0 : ∀ x y z : Int, (part 3 #[.int .i64 x, .int .i64 y, .int .i64 z] 0).run Tryz.prog w = .ok (.int .i64 x) w := fun x y z => by go_simp
  have p1 : ∀ x y z : Int, (part 3 #[.int .i64 x, .int .i64 y, .int .i64 z] 1).run Tryz.prog w = .ok (.int .i64 y) w := fun x y z => by go_simp
  have p2 : ∀ x y z : Int, (part 3 #[.int .i64 x, .int .i64 y, .int .i64 z] 2).run Tryz.prog w = .ok (.int .i64 z) w := fun x y z => by go_simp
  have q : ∀ x y : Int, (Op.equalIn (d + 1) 3 (.int .i64 x) (.int .i64 y)).run Tryz.prog w = .ok (x == y) w := fun x y => run_equalIn_int w d 3 .i64 .i64 x y Tryz.underlying3
  rw [run_equalIn_array w (d + 1) _ _ Tryz.underlying36 hi, hc]
  have q0 := q x0 y0
  have q1 := q x1 y1
  have q2 := q x2 y2
  generalize (x0 == y0) = a at q0 ⊢
  generalize (x1 == y1) = b at q1 ⊢
  generalize (x2 == y2) = c at q2 ⊢
  simp only [show List.range 3 = [0, 1, 2] from rfl, Op.eqItems, Nat.mul_one, Sem.run_bind, p0, q0, Result.andThen_ok]
  cases a <;> cases b <;> cases c <;> simp [Result.andThen, p1, p2, q1, q2]

theorem lit3 (w : World) (e : TypeId) (n : Nat) (x y z : Int) (h : n = 2 ∨ n = 3) : RdI (w.alloc (.cells #[.int .i64 x, .int .i64 y, .int .i64 z] e)) (some ⟨w.heap.size, 0, none⟩) n ([x, y, z].take n) := by
  have h3 := litI w #[.int .i64 x, .int .i64 y, .int .i64 z] e 3 [x, y, z] rfl (by omega) rfl
  refine ⟨by rcases h with rfl | rfl <;> rfl, by omega, fun _ => ⟨w.heap.size, 0, rfl, fun i hi j u hu => ?_⟩⟩
  obtain ⟨b, o, e1, hc⟩ := h3.cells (by omega)
  cases e1
  have hi3 : i < 3 := by have := hi; simp at this; omega
  exact hc i hi3 j u (by simpa [List.getElem_take] using hu)

/-- Numbers in memory of which Q holds. -/
def IntsPost (Q : List Int → Prop) (w : World) (e : Ending) (w' : World) : Prop := ∃ A n c ys, RdI w' A n ys ∧ Q ys ∧ e = .returned (.slice A n c) ∧ Below w.heap.size w w'

attribute [local go_sem high] eqA3

set_option maxRecDepth 100000 in
set_option maxHeartbeats 2000000 in
theorem hdec_any (c : Int) (w : World) : Calls Tryz.prog 143 #[.int .i64 c] w (IntsPost (fun ys => ys = hdec c) w) := by
  by_cases hs : isSyl c
  · have hk : ¬ kindF c < 4 := by unfold kindF; unfold isSyl at hs; rw [if_pos hs]; split <;> omega
    have HS := Lib.hid hs
    obtain ⟨L, hL'⟩ : ∃ L, L = hL c := ⟨_, rfl⟩
    obtain ⟨V, hV'⟩ : ∃ V, V = hV c := ⟨_, rfl⟩
    obtain ⟨T, hT'⟩ : ∃ T, T = (if hT c = 0 then 0 else 4520 + hT c - 1) := ⟨_, rfl⟩
    have HLV := Lib.hid (And.intro hL' (And.intro hV' hT'))
    clear hs hL' hV' hT'
    by_cases ht : hT c = 0
    · have hT0 : T = 0 := by rw [HLV.out.2.2, if_pos ht]
      have HD := Lib.hid (show hdec c = [L, V] by rw [hdec, if_pos HS.out, if_pos ht, HLV.out.1, HLV.out.2.1])
      subst hT0
      clear ht
      go_enter Tryz.func143, Tryz.ntmps143
      go_wp2_with fail
      refine (kind_any c _).mono ?_
      rintro e w1 ⟨rfl, hb⟩
      have HB1 := Lib.hid hb
      clear hb
      go_wp2_with fail
      refine (parts_any c _ HS.out).mono ?_
      rintro e w2 ⟨rfl, hb⟩
      rw [← HLV.out.1, ← HLV.out.2.1, ← HLV.out.2.2]
      have HB2 := Lib.hid (bthen HB1.out hb)
      clear hb
      go_wp2_with fail
      go_ret
      exact ⟨some ⟨w2.heap.size, 0, none⟩, 2, 3, [L, V], lit3 w2 _ 2 L V 0 (.inl rfl), HD.out.symm, rfl, bthen HB2.out (ba _ _)⟩
    · have hT0 : T = 4520 + hT c - 1 := by rw [HLV.out.2.2, if_neg ht]
      have hTn : (T == 0) = false := beq_eq_false_iff_ne.2 (by unfold hT at hT0; omega)
      have HD := Lib.hid (show hdec c = [L, V, T] by rw [hdec, if_pos HS.out, if_neg ht, HLV.out.1, HLV.out.2.1, hT0])
      clear ht hT0
      go_enter Tryz.func143, Tryz.ntmps143
      go_wp2_with fail
      refine (kind_any c _).mono ?_
      rintro e w1 ⟨rfl, hb⟩
      have HB1 := Lib.hid hb
      clear hb
      go_wp2_with fail
      refine (parts_any c _ HS.out).mono ?_
      rintro e w2 ⟨rfl, hb⟩
      rw [← HLV.out.1, ← HLV.out.2.1, ← HLV.out.2.2]
      have HB2 := Lib.hid (bthen HB1.out hb)
      clear hb
      go_wp2_with fail
      go_ret
      exact ⟨some ⟨w2.heap.size, 0, none⟩, 3, 3, [L, V, T], lit3 w2 _ 3 L V T (.inr rfl), HD.out.symm, rfl, bthen HB2.out (ba _ _)⟩
  · have hk : kindF c < 4 := by unfold kindF; unfold isSyl at hs; rw [if_neg hs]; repeat' split; all_goals omega
    have HD := Lib.hid (show hdec c = [c] by rw [hdec, if_neg hs])
    clear hs
    go_enter Tryz.func143, Tryz.ntmps143
    go_wp2_with fail
    refine (kind_any c _).mono ?_
    rintro e w1 ⟨rfl, hb⟩
    have HB1 := Lib.hid hb
    clear hb
    go_wp2_with fail
    go_ret
    exact ⟨some ⟨w1.heap.size, 0, none⟩, 1, 1, [c], litI _ _ _ _ _ rfl (by omega) rfl, HD.out.symm, rfl, bthen HB1.out (ba _ _)⟩
end Go.Proofs.YtfeofhinpgodoaaGreatDoor

namespace Go.Proofs.YtfeofhinpgodoaaGreatDoor
open Go.RowKit Go.Shelf

def encK (a : Int) : Value := .int .i64 a
theorem encK_inj (a c : Int) (h : encK a = encK c) : a = c := by simp [encK] at h; exact h
def datE (m : MpC) : Int × Value := (m.mp.frm, .agg #[.int .i64 m.mp.frm, .slice m.A m.n m.c, .string m.mp.tag])
/-- A block of data: the mappings, and whether tags count. -/
def DataM (D bm : Nat) (l : List Mp) (cp : Bool) (w : World) : Prop :=
  w.cell? ⟨D, 0, none⟩ = some (.map (some bm)) ∧ w.cell? ⟨D, 1, none⟩ = some (.bool cp) ∧ ∃ raw : List MpC, raw.map (·.mp) = l ∧ MapAt encK bm (raw.map datE) w ∧ ∀ m ∈ raw, RdI w m.A m.n m.mp.to
theorem DataM.below {D bm : Nat} {l : List Mp} {cp : Bool} {w w1 : World} (h : DataM D bm l cp w) (hb : Below w.heap.size w w1) : DataM D bm l cp w1 := by
  obtain ⟨h1, h2, raw, h3, h4, h5⟩ := h
  exact ⟨bcel hb h1, bcel hb h2, raw, h3, h4.below hb, fun m hm => (h5 m hm).below hb⟩
theorem keyInt : KeyOk Tryz.prog 3 (fun v => ∃ a, v = .int .i64 a) := KeyOk.int Tryz.underlying3
theorem okK (a : Int) : ∃ b, encK a = .int .i64 b := ⟨a, rfl⟩

theorem grown_cell {W W' : World} {b : Nat} {a : Addr} {v : Value} (hg : W.grownBy W' (some b)) (h : W.cell? a = some v) (hne : a.block ≠ b) : W'.cell? a = some v :=
  (World.cell?_of_block (w := W) (hg.block a.block (World.block_lt_of_cell? W a h) (fun e => hne (Option.some.inj e)))).trans h

/-- The code points are all different. -/
def Diff (l : List Mp) : Prop := ∀ (i j : Nat) (a b : Mp), i < j → l[i]? = some a → l[j]? = some b → a.frm ≠ b.frm
theorem put_new {κ : Type} [DecidableEq κ] {a : κ} {v : Value} : ∀ {kv : List (κ × Value)}, look kv a = none → put kv a v = kv ++ [(a, v)]
  | [], _ => rfl
  | p :: r, h => by
    rw [look_cons] at h
    by_cases e : p.1 = a
    · rw [if_pos e] at h; cases h
    · rw [if_neg e] at h
      rw [put, if_neg e, put_new h]; rfl

/-- The loop's state. -/
def LoadSt (w : World) (sz : Nat) (raw : List MpC) (cp : Bool) (k : Nat) (W : World) : Prop :=
  Below w.heap.size w W ∧ W.cell? ⟨sz + 1 + 1, 0, none⟩ = some (.map (some sz)) ∧ W.cell? ⟨sz + 1 + 1, 1, none⟩ = some (.bool cp) ∧ W.cell? ⟨sz + 1 + 1, 2, none⟩ = some (.map (some (sz + 1))) ∧ MapAt encK sz ((raw.take k).map datE) W ∧ MapAt encK (sz + 1) [] W
def LoadPost (l : List Mp) (cp : Bool) (w : World) (e : Ending) (w' : World) : Prop :=
  ∃ D bm bf, e = .returned (.pointer (some ⟨D, 0, none⟩)) ∧ DataM D bm l cp w' ∧ w'.cell? ⟨D, 2, none⟩ = some (.map (some bf)) ∧ MapAt encK bf [] w' ∧ w.heap.size ≤ D ∧ w.heap.size ≤ bm ∧ w.heap.size ≤ bf ∧ bm ≠ bf ∧ bm ≠ D ∧ bf ≠ D ∧ Below w.heap.size w w'

set_option maxRecDepth 100000 in
set_option maxHeartbeats 4000000 in
theorem load_any (A : Option Addr) (n c : Nat) (l : List Mp) (cp : Bool) (w : World) (hR : RdMp w A n l) (hd : Diff l) :
    Calls Tryz.prog 80 #[.slice A n c, .bool cp] w (LoadPost l cp w) := by
  obtain ⟨raw, hraw, hrd, hto⟩ := hR
  have hn := hrd.bd
  have HL := Lib.hid hrd.len
  have HR := Lib.hid hrd
  have HT := Lib.hid hto
  have HRaw := Lib.hid hraw
  have HD := Lib.hid hd
  clear hrd hto hraw hd
  have hmm := @run_makeMap Tryz.prog
  go_enter Tryz.func80, Tryz.ntmps80
  go_wp2_with fail
  go_loopw [15] (fun r wr => ∃ k : Nat, k ≤ n ∧ r = .int .i64 (k : Int) ∧ Hid (LoadSt w w.heap.size raw cp k wr)) (fun r _ => n - (intOf r).toNat)
  case atStart =>
    refine ⟨0, by omega, by go_num, (by repeat (first | exact Below.refl _ _ | refine Below.alloc ?_ (by first | exact Nat.le_refl _ | (simp; done) | (simp; omega)) _ | refine Below.drew ?_)), by go_simp, by go_simp, by go_simp, ((MapAt.made encK w).below (ba _ _)).below (ba _ _), ?_⟩
    have h := MapAt.made encK (w.alloc (.map #[] 0))
    rw [show (w.alloc (.map #[] 0)).heap.size = w.heap.size + 1 by simp] at h
    exact h.below (ba _ _)
  case round =>
    obtain ⟨k, hk, rfl, HS⟩ := hrel
    obtain ⟨wo, rfl⟩ : ∃ wo : World, wo = wr := ⟨_, rfl⟩
    obtain ⟨hB, hc0, hc1, hc2, hM, hF⟩ := HS.out
    have HB := Lib.hid hB
    have HM := Lib.hid hM
    have HF := Lib.hid hF
    have HC1 := Lib.hid hc1
    have HC2 := Lib.hid hc2
    clear hB hM hF hc1 hc2 HS
    by_cases hlt : k < n
    · have hkl : k < raw.length := by rw [HL.out]; exact hlt
      obtain ⟨m, hm⟩ : ∃ m, m = raw[k] := ⟨_, rfl⟩
      have hrk : raw[k]? = some m := by rw [hm]; exact List.getElem?_eq_getElem hkl
      obtain ⟨b, o, rfl⟩ := HR.out.addr (by omega)
      obtain ⟨b', o', e', hc⟩ := (HR.out.below HB.out).cells (by omega)
      cases e'
      have cx0 := hc k hkl 0
      have cx1 := hc k hkl 1
      have cx2 := hc k hkl 2
      rw [← hm] at cx0 cx1 cx2
      obtain ⟨⟨frm, tag, to⟩, A', n', c'⟩ := m
      have d0 : wo.cell? ⟨b, o + k * 3, none⟩ = some (.int .i64 frm) := cx0 _ rfl
      have d1 : wo.cell? ⟨b, o + k * 3 + 1, none⟩ = some (.slice A' n' c') := cx1 _ rfl
      have d2 : wo.cell? ⟨b, o + k * 3 + 2, none⟩ = some (.string tag) := cx2 _ rfl
      have HRK := Lib.hid hrk
      clear hm hc cx0 cx1 cx2 hrk
      have hlt' : (k : Int) < (n : Int) := by omega
      have HN := Lib.hid (show look ((raw.take k).map datE) frm = none from look_none_iff.2 fun p hp => by
        obtain ⟨x, hx, rfl⟩ := List.mem_map.1 hp
        obtain ⟨i, hi⟩ := List.getElem?_of_mem hx
        rw [List.getElem?_take] at hi
        split at hi
        · rename_i hik
          refine HD.out i k x.mp ⟨frm, tag, to⟩ hik ?_ ?_
          · rw [← HRaw.out, List.getElem?_map, hi]; rfl
          · rw [← HRaw.out, List.getElem?_map, HRK.out]; rfl
        · cases hi)
      have HP := Lib.hid (show put ((raw.take k).map datE) frm (.agg #[.int .i64 frm, .slice A' n' c', .string tag]) = (raw.take (k + 1)).map datE by
        rw [put_new HN.out, List.take_add_one, HRK.out]; simp [datE])
      have HUp : Hid (∀ W, Below wo.heap.size wo W → ∃ w1, (Instr.mapUpdate 129 (.map (some w.heap.size)) (encK frm) (.agg #[.int .i64 frm, .slice A' n' c', .string tag])).run Tryz.prog W = .ok () w1 ∧ MapAt encK w.heap.size (put ((raw.take k).map datE) frm (.agg #[.int .i64 frm, .slice A' n' c', .string tag])) w1 ∧ w1.heap.size = W.heap.size ∧ W.grownBy w1 (some w.heap.size)) := fun W hb =>
        (HM.out.below hb).update keyInt okK encK_inj Tryz.underlying129 frm _
      go_wp2_with fail
      obtain ⟨w4, hw4⟩ : ∃ w4, w4 = wo.alloc (.cells #[.int .i64 frm, .slice A' n' c', .string tag] 56) := ⟨_, rfl⟩
      rw [← hw4]
      have hb4 : Below wo.heap.size wo w4 := by rw [hw4]; exact (Below.refl _ _).alloc (Nat.le_refl _) _
      have f0 : w4.cell? ⟨wo.heap.size, 0, none⟩ = some (.int .i64 frm) := by rw [hw4]; go_simp
      have f1 : w4.cell? ⟨wo.heap.size, 1, none⟩ = some (.slice A' n' c') := by rw [hw4]; go_simp
      have f2 : w4.cell? ⟨wo.heap.size, 2, none⟩ = some (.string tag) := by rw [hw4]; go_simp
      have hc4 := bcel hb4 hc0
      have HB4 := Lib.hid hb4
      have hbW : Below wo.heap.size wo w4.drew := hb4.drew
      have HbW := Lib.hid hbW
      clear hw4 hb4 hbW
      refine still_tail_drew 7 (by kernel_rfl) (by kernel_rfl) ?_
      simp only [List.take_succ_cons, List.take_zero, List.drop_succ_cons, List.drop_zero]
      repeat still_step
      try refine wpStill_nil ?_
      go_wp2_with (at_mapUpdate; refine wpList_update_ex rfl _ _ _ _ rfl (.map (some w.heap.size)) (encK frm) (.agg #[.int .i64 frm, .slice A' n' c', .string tag]) rfl rfl rfl _ (HUp.out _ (by exact HbW.out)) ?_; rintro w5 ⟨hM5, hz5, hg5⟩; have HSt := Lib.hid (show LoadSt w w.heap.size raw cp (k + 1) w5 from ⟨(bthen HB.out HbW.out).grown hg5 (by have h1 := HB.out.size; have h2 := HbW.out.size; omega) (fun r e => by cases e; exact Nat.le_refl _), grown_cell hg5 (bcel HbW.out hc0) (by simp; omega), grown_cell hg5 (bcel HbW.out HC1.out) (by simp; omega), grown_cell hg5 (bcel HbW.out HC2.out) (by simp; omega), by rw [← HP.out]; exact hM5, (HF.out.below HbW.out).same (hg5.block _ (HF.out.below HbW.out).lt (by simp))⟩); clear hM5 hz5 hg5)
      go_roundw
      case rel => exact ⟨k + 1, by omega, by go_num, HSt.out⟩
      case measure => simp [intOf]; omega
    · have e : k = n := by omega
      subst e
      have hlt' : ¬ (k : Int) < (k : Int) := by omega
      have HTk := Lib.hid (show (raw.take k).map datE = raw.map datE by rw [List.take_of_length_le (by rw [HL.out]; exact Nat.le_refl _)])
      go_wp2_with fail
      go_ret
      refine ⟨w.heap.size + 1 + 1, w.heap.size, w.heap.size + 1, rfl, ⟨hc0, HC1.out, raw, HRaw.out, by rw [← HTk.out]; exact HM.out, fun m hm => (HT.out m hm).1.below HB.out⟩, HC2.out, HF.out, by omega, by omega, by omega, by omega, by omega, by omega, HB.out⟩
end Go.Proofs.YtfeofhinpgodoaaGreatDoor

namespace Go.Proofs.YtfeofhinpgodoaaGreatDoor
open Go.RowKit Go.Shelf

def mpAt (l : List Mp) (c : Int) : Option Mp := l.find? fun m => decide (m.frm = c)
/-- What a number is replaced by. -/
def onceS (l : List Mp) (cp : Bool) (c : Int) : Option (List Int) :=
  if isSyl c then some (hdec c) else match mpAt l c with
    | some m => if m.tag.size ≠ 0 ∧ cp = false then none else some m.to
    | none => none
def OncePost (o : Option (List Int)) (w : World) (e : Ending) (w' : World) : Prop :=
  (∃ A n c ys, o = some ys ∧ RdI w' A n ys ∧ e = .returned (.tuple #[.slice A n c, .bool true]) ∧ Below w.heap.size w w') ∨ (o = none ∧ e = .returned (.tuple #[.slice none 0 0, .bool false]) ∧ Below w.heap.size w w')

theorem look_raw (raw : List MpC) (c : Int) : look (raw.map datE) c = (raw.find? fun m => decide (m.mp.frm = c)).map fun m => (datE m).2 := by
  unfold look
  rw [List.find?_map]
  simp only [Option.map_map]
  rfl
theorem mpAt_raw (raw : List MpC) (c : Int) : mpAt (raw.map (·.mp)) c = (raw.find? fun m => decide (m.mp.frm = c)).map (·.mp) := by
  unfold mpAt
  rw [List.find?_map]
  rfl
theorem zeroMp (w : World) : (zeroValue 56).run Tryz.prog w = .ok (.agg #[.int .i64 0, .slice none 0 0, .string ⟨#[]⟩]) w := by kernel_rfl
theorem hdec_len (c : Int) : (isSyl c → 1 < (hdec c).length) ∧ (¬ isSyl c → (hdec c).length = 1) := by
  unfold hdec
  constructor
  · intro h; rw [if_pos h]; split <;> simp
  · intro h; rw [if_neg h]; simp

set_option maxRecDepth 100000 in
set_option maxHeartbeats 4000000 in
theorem once_any (D bm : Nat) (l : List Mp) (cp : Bool) (c : Int) (w : World) (hD : DataM D bm l cp w) :
    Calls Tryz.prog 116 #[.pointer (some ⟨D, 0, none⟩), .int .i64 c] w (OncePost (onceS l cp c) w) := by
  have HD := Lib.hid hD
  clear hD
  by_cases hs : isSyl c
  · have HO := Lib.hid (show onceS l cp c = some (hdec c) by rw [onceS, if_pos hs])
    have HLn := Lib.hid ((hdec_len c).1 hs)
    clear hs
    go_enter Tryz.func116, Tryz.ntmps116
    go_wp2_with fail
    refine (hdec_any c _).mono ?_
    rintro e w1 ⟨A, n, c', ys, h1, rfl, rfl, hb⟩
    have HY := Lib.hid h1
    have HB := Lib.hid hb
    have hn : (1 : Int) < (n : Int) := by have := HLn.out; have := h1.len; omega
    clear h1 hb
    go_wp2_with fail
    go_ret2
    exact .inl ⟨A, n, c', hdec c, HO.out, HY.out, rfl, HB.out⟩
  · have HLn := Lib.hid ((hdec_len c).2 hs)
    have HNs := Lib.hid hs
    clear hs
    go_enter Tryz.func116, Tryz.ntmps116
    go_wp2_with fail
    refine (hdec_any c _).mono ?_
    rintro e w1 ⟨A, n, c', ys, h1, rfl, rfl, hb⟩
    have HB := Lib.hid hb
    have hn1 : n = 1 := by have := HLn.out; have := h1.len; omega
    subst hn1
    obtain ⟨hd0, hd1, raw, hraw, hM, hto⟩ := HD.out.below hb
    have hDl : D < w1.heap.size := World.block_lt_of_cell? w1 _ hd1
    have hDl2 : ¬ D = w1.heap.size := by omega
    have HLk := Lib.hid (hM.lookup keyInt okK encK_inj Tryz.underlying129 (zeroMp w1) c true)
    cases hf : raw.find? fun m => decide (m.mp.frm = c) with
    | none =>
      have HO := Lib.hid (show onceS l cp c = none by rw [onceS, if_neg HNs.out, ← hraw, mpAt_raw, hf]; rfl)
      have hlk := HLk.out
      rw [look_raw, hf] at hlk
      have HLz := Lib.hid (show (Instr.lookup 129 (.map (some bm)) (encK c) true).run Tryz.prog w1 = .ok (.tuple #[.agg #[.int .i64 0, .slice none 0 0, .string ⟨#[]⟩], .bool false]) w1 from hlk)
      clear HLk hlk hf hM hto hraw h1 hb
      go_wp2_with (at_lookup; refine wpList_lookup_at rfl _ _ _ _ rfl (.map (some bm)) (encK c) (.tuple #[.agg #[.int .i64 0, .slice none 0 0, .string ⟨#[]⟩], .bool false]) rfl rfl (by exact HLz.out) ?_)
      go_ret2
      exact .inr ⟨HO.out, rfl, bthen HB.out (ba _ _)⟩
    | some m =>
      obtain ⟨⟨frm, tag, to⟩, A', n', c2⟩ := m
      have hT := hto _ (List.mem_of_find?_eq_some hf)
      have HT := Lib.hid (show RdI w1 A' n' to from hT)
      have hlk := HLk.out
      rw [look_raw, hf] at hlk
      have HLz := Lib.hid (show (Instr.lookup 129 (.map (some bm)) (encK c) true).run Tryz.prog w1 = .ok (.tuple #[.agg #[.int .i64 frm, .slice A' n' c2, .string tag], .bool true]) w1 from hlk)
      have hmp : mpAt l c = some ⟨frm, tag, to⟩ := by rw [← hraw, mpAt_raw, hf]; rfl
      have HMp := Lib.hid hmp
      have hsz : tag.toList.isEmpty = decide (tag.size = 0) := bytes_isEmpty tag
      clear HLk hlk hf hM hto hraw h1 hb hT hmp
      by_cases h0 : tag.size = 0
      · have he : tag.toList.isEmpty = true := hsz.trans (decide_eq_true h0)
        have HO := Lib.hid (show onceS l cp c = some to by rw [onceS, if_neg HNs.out, HMp.out]; simp [h0])
        clear hsz h0
        go_wp2_with (at_lookup; refine wpList_lookup_at rfl _ _ _ _ rfl (.map (some bm)) (encK c) (.tuple #[.agg #[.int .i64 frm, .slice A' n' c2, .string tag], .bool true]) rfl rfl (by exact HLz.out) ?_)
        go_ret2
        exact .inl ⟨A', n', c2, to, HO.out, HT.out.below (ba _ _), rfl, bthen HB.out (ba _ _)⟩
      · have he : tag.toList.isEmpty = false := hsz.trans (decide_eq_false h0)
        cases cp
        · have HO := Lib.hid (show onceS l false c = none by rw [onceS, if_neg HNs.out, HMp.out]; simp [h0])
          clear hsz h0
          go_wp2_with (at_lookup; refine wpList_lookup_at rfl _ _ _ _ rfl (.map (some bm)) (encK c) (.tuple #[.agg #[.int .i64 frm, .slice A' n' c2, .string tag], .bool true]) rfl rfl (by exact HLz.out) ?_)
          go_ret2
          exact .inr ⟨HO.out, rfl, bthen HB.out (ba _ _)⟩
        · have HO := Lib.hid (show onceS l true c = some to by rw [onceS, if_neg HNs.out, HMp.out]; simp)
          clear hsz h0
          go_wp2_with (at_lookup; refine wpList_lookup_at rfl _ _ _ _ rfl (.map (some bm)) (encK c) (.tuple #[.agg #[.int .i64 frm, .slice A' n' c2, .string tag], .bool true]) rfl rfl (by exact HLz.out) ?_)
          go_ret2
          exact .inl ⟨A', n', c2, to, HO.out, HT.out.below (ba _ _), rfl, bthen HB.out (ba _ _)⟩
end Go.Proofs.YtfeofhinpgodoaaGreatDoor

namespace Go.Proofs.YtfeofhinpgodoaaGreatDoor
open Go.RowKit Go.Shelf

/-- Nothing but block b, a map, has turned. -/
def Turn (b : Nat) (W W' : World) : Prop := W.grownBy W' (some b)
theorem Turn.refl (b : Nat) (W : World) : Turn b W W := ⟨rfl, rfl, rfl, Nat.le_refl _, fun _ _ _ => rfl⟩
theorem Turn.of {b : Nat} {W W' : World} (h : Below W.heap.size W W') : Turn b W W' := ⟨h.os, h.tape, h.output, h.size, fun i hi _ => h.block i hi⟩
theorem Turn.trans {b : Nat} {W W' W2 : World} (h : Turn b W W') (k : Turn b W' W2) : Turn b W W2 :=
  ⟨k.os.trans h.os, k.tape.trans h.tape, k.output.trans h.output, Nat.le_trans h.size k.size, fun i hi hn => (k.block i (Nat.lt_of_lt_of_le hi h.size) hn).trans (h.block i hi hn)⟩
section
variable {κ : Type} {enc enc' : κ → Value} {b b' : Nat} {kv kv' : List (κ × Value)} {W W' : World}
theorem cell_not_map {a : Addr} {v : Value} (hm : MapAt enc b kv W) (h : W.cell? a = some v) : a.block ≠ b := by
  obtain ⟨es, clock, hb, _⟩ := hm
  rintro rfl
  simp [World.cell?, hb] at h
theorem Turn.cell {a : Addr} {v : Value} (h : Turn b W W') (hm : MapAt enc b kv W) (hc : W.cell? a = some v) : W'.cell? a = some v := grown_cell h hc (cell_not_map hm hc)
theorem Turn.map {κ' : Type} {en : κ' → Value} {k2 : List (κ' × Value)} (h : Turn b W W') (hm : MapAt en b' k2 W) (hne : b' ≠ b) : MapAt en b' k2 W' := hm.same (h.block b' hm.lt (fun e => hne (Option.some.inj e)))
theorem Turn.rd {A : Option Addr} {n : Nat} {xs : List Int} (h : Turn b W W') (hm : MapAt enc b kv W) (hr : RdI W A n xs) : RdI W' A n xs :=
  ⟨hr.len, hr.le, fun hn => by
    obtain ⟨bb, o, e, hc⟩ := hr.cells hn
    exact ⟨bb, o, e, fun i hi j u hu => h.cell hm (hc i hi j u hu)⟩⟩
theorem Turn.dataM {D bm : Nat} {l : List Mp} {cp : Bool} (h : Turn b W W') (hm : MapAt enc b kv W) (hd : DataM D bm l cp W) (hne : bm ≠ b) : DataM D bm l cp W' := by
  obtain ⟨h1, h2, raw, h3, h4, h5⟩ := hd
  exact ⟨h.cell hm h1, h.cell hm h2, raw, h3, h.map h4 hne, fun m hm' => h.rd hm (h5 m hm')⟩
end

abbrev one : Value := .int .i64 1
abbrev two : Value := .int .i64 2
/-- What the search keeps of its map of states. -/
def StInv (step : Int → Option (List Int)) (kv : List (Int × Value)) : Prop :=
  (∀ a v, look kv a = some v → v = one ∨ v = two) ∧ (∀ x, look kv x = some two → Ends step x) ∧ ∀ x, look kv x ≠ none → step x ≠ none
/-- How many of the mappings' code points have not come up. -/
def fresh (l : List Mp) (kv : List (Int × Value)) : Nat := l.countP fun m => (look kv m.frm).isNone
theorem fresh_put {l : List Mp} {kv : List (Int × Value)} {c : Int} {v : Value} {m : Mp} (hm : m ∈ l) (hc : m.frm = c) (hn : look kv c = none) : fresh l (put kv c v) < fresh l kv := by
  subst hc
  have e : ∀ x : Mp, (look (put kv m.frm v) x.frm).isNone = if x.frm = m.frm then false else (look kv x.frm).isNone := fun x => by
    rw [look_put]; split <;> simp
  unfold fresh
  have key : ∀ l : List Mp, l.countP (fun x => (look (put kv m.frm v) x.frm).isNone) ≤ l.countP (fun x => (look kv x.frm).isNone) := fun l => by
    apply List.countP_mono_left
    intro x _ hx
    rw [e] at hx
    split at hx
    · cases hx
    · exact hx
  obtain ⟨s, t, rfl⟩ := List.append_of_mem hm
  rw [List.countP_append, List.countP_append, List.countP_cons, List.countP_cons]
  have h1 : (look (put kv m.frm v) m.frm).isNone = false := by rw [e]; simp
  have h2 : (look kv m.frm).isNone = true := by rw [hn]; rfl
  rw [h1, h2]
  have := key s
  have := key t
  simp; omega
theorem fresh_mono {l : List Mp} {kv kv' : List (Int × Value)} (h : ∀ x, look kv x ≠ none → look kv' x ≠ none) : fresh l kv' ≤ fresh l kv := by
  unfold fresh
  apply List.countP_mono_left
  intro m _ hx
  cases hk : look kv m.frm with
  | none => rfl
  | some v =>
    have := h m.frm (by rw [hk]; simp)
    cases hk' : look kv' m.frm with
    | none => exact absurd hk' this
    | some v' => rw [hk'] at hx; cases hx
end Go.Proofs.YtfeofhinpgodoaaGreatDoor

namespace Go.Proofs.YtfeofhinpgodoaaGreatDoor
open Go.RowKit Go.Shelf

structure VEnv (D bm B1 B2 B3 bs : Nat) (l : List Mp) (W : World) : Prop where
  data : DataM D bm l true W
  c1 : W.cell? ⟨B1, 0, none⟩ = some (.pointer (some ⟨D, 0, none⟩))
  c2 : W.cell? ⟨B2, 0, none⟩ = some (.map (some bs))
  c3 : W.cell? ⟨B3, 0, none⟩ = some (.func (.func 115) #[] #[.pointer (some ⟨B1, 0, none⟩), .pointer (some ⟨B2, 0, none⟩), .pointer (some ⟨B3, 0, none⟩)])
  ne : bm ≠ bs
theorem VEnv.turn {D bm B1 B2 B3 bs : Nat} {l : List Mp} {W W' : World} {kv : List (Int × Value)} (h : VEnv D bm B1 B2 B3 bs l W) (hm : MapAt encK bs kv W) (ht : Turn bs W W') : VEnv D bm B1 B2 B3 bs l W' :=
  ⟨ht.dataM hm h.data h.ne, ht.cell hm h.c1, ht.cell hm h.c2, ht.cell hm h.c3, h.ne⟩
def VisPost (bs : Nat) (step : Int → Option (List Int)) (kv : List (Int × Value)) (c : Int) (W : World) (e : Ending) (W' : World) : Prop :=
  ∃ (r : Bool) (kv' : List (Int × Value)), e = .returned (.bool r) ∧ MapAt encK bs kv' W' ∧ Turn bs W W' ∧
    (r = false → Ends step c ∧ StInv step kv' ∧ (∀ x, look kv' x = some one ↔ look kv x = some one) ∧ ∀ x, look kv x ≠ none → look kv' x ≠ none) ∧ (r = true → ∃ x, Way step x x)
theorem zeroI (w : World) : (zeroValue 3).run Tryz.prog w = .ok (.int .i64 0) w := by kernel_rfl

section
variable (D bm B1 B2 B3 bs : Nat) (l : List Mp)

set_option maxRecDepth 100000 in
set_option maxHeartbeats 2000000 in
theorem vis_leaf (c : Int) (kv : List (Int × Value)) (W : World) (hE : VEnv D bm B1 B2 B3 bs l W) (hM : MapAt encK bs kv W) (hI : StInv (onceS l true) kv) (hn : onceS l true c = none) :
    Calls Tryz.prog 115 #[.int .i64 c, .pointer (some ⟨B1, 0, none⟩), .pointer (some ⟨B2, 0, none⟩), .pointer (some ⟨B3, 0, none⟩)] W (VisPost bs (onceS l true) kv c W) := by
  have HE := Lib.hid hE; have HM := Lib.hid hM; have HI := Lib.hid hI; have HN := Lib.hid hn
  have cc1 := hE.c1
  clear hE hM hI hn
  go_enter Tryz.func115, Tryz.ntmps115
  go_wp2_with fail
  refine (once_any D bm l true c W HE.out.data).mono ?_
  rintro e w1 (⟨A, n, c', ys, h0, _⟩ | ⟨_, rfl, hb⟩)
  · rw [HN.out] at h0; cases h0
  · have HB := Lib.hid hb
    clear hb
    go_wp2_with fail
    go_ret
    exact ⟨false, kv, rfl, HM.out.below HB.out, Turn.of HB.out, fun _ => ⟨Ends.leaf HN.out, HI.out, fun _ => Iff.rfl, fun _ h => h⟩, nofun⟩

/-- It has come up already: it is done, or on the way. -/
theorem vis_seen (c : Int) (v : Value) (kv : List (Int × Value)) (W : World) (hE : VEnv D bm B1 B2 B3 bs l W) (hM : MapAt encK bs kv W) (hI : StInv (onceS l true) kv) (hv : look kv c = some v)
    (hG : ∀ g, look kv g = some one → Way (onceS l true) g c) :
    Calls Tryz.prog 115 #[.int .i64 c, .pointer (some ⟨B1, 0, none⟩), .pointer (some ⟨B2, 0, none⟩), .pointer (some ⟨B3, 0, none⟩)] W (VisPost bs (onceS l true) kv c W) := by
  have HE := Lib.hid hE; have HM := Lib.hid hM; have HI := Lib.hid hI; have HV := Lib.hid hv; have HG := Lib.hid hG
  have cc1 := hE.c1
  have hne := Lib.hid (hI.2.2 c (by rw [hv]; simp))
  have hval := hI.1 c v hv
  clear hE hM hI hv hG
  go_enter Tryz.func115, Tryz.ntmps115
  go_wp2_with fail
  refine (once_any D bm l true c W HE.out.data).mono ?_
  rintro e w1 (⟨A, n, c', ys, h0, hy, rfl, hb⟩ | ⟨h0, _⟩)
  · have HB := Lib.hid hb
    have cc2 := bcel hb HE.out.c2
    have hlk := (HM.out.below hb).lookup keyInt okK encK_inj Tryz.underlying133 (zeroI w1) c false
    rw [HV.out] at hlk
    rcases hval with rfl | rfl
    · have hlk' : (Instr.lookup 133 (.map (some bs)) (.int .i64 c) false).run Tryz.prog w1 = .ok (.int .i64 1) w1 := hlk
      clear hlk hy hb h0
      go_wp2_with fail
      go_ret
      exact ⟨true, kv, rfl, HM.out.below HB.out, Turn.of HB.out, nofun, fun _ => ⟨c, HG.out c HV.out⟩⟩
    · have hlk' : (Instr.lookup 133 (.map (some bs)) (.int .i64 c) false).run Tryz.prog w1 = .ok (.int .i64 2) w1 := hlk
      clear hlk hy hb h0
      go_wp2_with fail
      go_ret
      exact ⟨false, kv, rfl, HM.out.below HB.out, Turn.of HB.out, fun _ => ⟨HI.out.2.1 c HV.out, HI.out, fun _ => Iff.rfl, fun _ h => h⟩, nofun⟩
  · exact absurd h0 hne.out

theorem once_mem {c : Int} {ys : List Int} (h : onceS l true c = some ys) (hs : ¬ isSyl c) : ∃ m ∈ l, m.frm = c := by
  unfold onceS at h
  rw [if_neg hs] at h
  cases hm : mpAt l c with
  | none => rw [hm] at h; cases h
  | some m =>
    unfold mpAt at hm
    exact ⟨m, List.mem_of_find?_eq_some hm, by simpa using List.find?_some hm⟩
theorem stInv_put {step : Int → Option (List Int)} {kv : List (Int × Value)} {c : Int} {v : Value} (h : StInv step kv) (hv : v = one ∨ (v = two ∧ Ends step c)) (hc : step c ≠ none) : StInv step (put kv c v) := by
  refine ⟨fun a u hu => ?_, fun x hx => ?_, fun x hx => ?_⟩
  · rw [look_put] at hu
    split at hu
    · cases hu; exact hv.elim .inl (fun k => .inr k.1)
    · exact h.1 a u hu
  · rw [look_put] at hx
    split at hx
    · rename_i e
      subst e
      rcases hv with rfl | ⟨rfl, hE⟩
      · cases hx
      · exact hE
    · exact h.2.1 x hx
  · rw [look_put] at hx
    split at hx
    · rename_i e; subst e; exact hc
    · exact h.2.2 x hx

/-- What holds while the elements of a target are searched. -/
def VisI (c : Int) (kv : List (Int × Value)) (ys : List Int) (w2 : World) (j : Nat) (W : World) : Prop :=
  ∃ kvj, MapAt encK bs kvj W ∧ StInv (onceS l true) kvj ∧ (∀ x, look kvj x = some one ↔ (x = c ∨ look kv x = some one)) ∧ (∀ x, look (put kv c one) x ≠ none → look kvj x ≠ none) ∧ Turn bs w2 W ∧ ∀ i x, i < j → ys[i]? = some x → Ends (onceS l true) x
def VisT (w2 : World) (W : World) : Prop := ∃ kvj, MapAt encK bs kvj W ∧ Turn bs w2 W ∧ ∃ x, Way (onceS l true) x x

set_option maxRecDepth 100000 in
set_option maxHeartbeats 4000000 in
theorem vis_any (hsy : ∀ c, isSyl c → ∀ x ∈ hdec c, onceS l true x = none) : ∀ (d : Nat) (c : Int) (kv : List (Int × Value)) (W : World), fresh l kv < d → VEnv D bm B1 B2 B3 bs l W → MapAt encK bs kv W → StInv (onceS l true) kv →
    (∀ g, look kv g = some one → Way (onceS l true) g c) →
    Calls Tryz.prog 115 #[.int .i64 c, .pointer (some ⟨B1, 0, none⟩), .pointer (some ⟨B2, 0, none⟩), .pointer (some ⟨B3, 0, none⟩)] W (VisPost bs (onceS l true) kv c W) := by
  intro d
  induction d with
  | zero => intro c kv W h; omega
  | succ d ih =>
    intro c kv W hd hE hM hI hG
    cases hst : onceS l true c with
    | none => exact vis_leaf D bm B1 B2 B3 bs l c kv W hE hM hI hst
    | some ys0 =>
      cases hv : look kv c with
      | some v => exact vis_seen D bm B1 B2 B3 bs l c v kv W hE hM hI hv hG
      | none =>
        have HE := Lib.hid hE; have HM := Lib.hid hM; have HI := Lib.hid hI; have HV := Lib.hid hv; have HG := Lib.hid hG; have HIH := Lib.hid ih; have HD := Lib.hid hd; have HST := Lib.hid hst; have HSY := Lib.hid hsy
        have cc1 := hE.c1
        have HEn := Lib.hid (enters_of Tryz.func115 (by kernel_rfl) rfl)
        clear hE hM hI hG ih hd hst hsy
        go_enter Tryz.func115, Tryz.ntmps115
        go_wp2_with fail
        refine (once_any D bm l true c W HE.out.data).mono ?_
        rintro e w1 (⟨A, n, c', ys, h0, hy, rfl, hb⟩ | ⟨h0, _⟩)
        · have hys : ys0 = ys := Option.some.inj (HST.out.symm.trans h0)
          subst hys
          have HY := Lib.hid hy
          have hn := hy.bd
          have HB := Lib.hid hb
          have cc2 := bcel hb HE.out.c2
          have HM1 := Lib.hid (HM.out.below hb)
          have hlk := HM1.out.lookup keyInt okK encK_inj Tryz.underlying133 (zeroI w1) c false
          rw [HV.out] at hlk
          have hlk' : (Instr.lookup 133 (.map (some bs)) (.int .i64 c) false).run Tryz.prog w1 = .ok (.int .i64 0) w1 := hlk
          obtain ⟨w2, hu, hM2, hz2, hg2⟩ := HM1.out.update keyInt okK encK_inj Tryz.underlying133 c one
          have hu' : (Instr.mapUpdate 133 (.map (some bs)) (.int .i64 c) (.int .i64 1)).run Tryz.prog w1 = .ok () w2 := hu
          have HM2 := Lib.hid hM2
          have HT2 := Lib.hid (show Turn bs w1 w2 from hg2)
          have HE1 := Lib.hid (HE.out.turn HM.out (Turn.of hb))
          have HE2 := Lib.hid (HE1.out.turn HM1.out HT2.out)
          have cc3 := HE2.out.c3
          have HY2 := Lib.hid (HT2.out.rd HM1.out HY.out)
          have HPut := Lib.hid (stInv_put (c := c) (v := one) HI.out (.inl rfl) (by rw [HST.out]; simp))
          clear hlk hu hM2 hz2 hg2 h0 hy hb hv
          go_wp2_with fail
          refine (containsI_any A n c' ys0 115 #[.pointer (some ⟨B1, 0, none⟩), .pointer (some ⟨B2, 0, none⟩), .pointer (some ⟨B3, 0, none⟩)] w2 (VisI bs l c kv ys0 w2) (VisT bs l w2) HEn.out hn ?_ ?_ ?_).mono ?_
          · refine ⟨put kv c one, HM2.out, HPut.out, fun x => ?_, fun _ h => h, Turn.refl _ _, fun i x h => by omega⟩
            rw [look_put]
            by_cases e : x = c
            · simp [e]
            · simp [e]
          · rintro j W' ⟨kvj, _, _, _, _, hT, _⟩
            exact hT.rd HM2.out HY2.out
          · rintro j x W' hx ⟨kvj, k1, k2, k3, k4, k5, k6⟩
            have hmem : x ∈ ys0 := List.mem_of_getElem? hx
            have hEj := HE2.out.turn HM2.out k5
            have hcall : Calls Tryz.prog 115 #[.int .i64 x, .pointer (some ⟨B1, 0, none⟩), .pointer (some ⟨B2, 0, none⟩), .pointer (some ⟨B3, 0, none⟩)] W' (VisPost bs (onceS l true) kvj x W') := by
              by_cases hxn : onceS l true x = none
              · exact vis_leaf D bm B1 B2 B3 bs l x kvj W' hEj k1 k2 hxn
              · have hns : ¬ isSyl c := fun hs => by
                  have h1 := HST.out
                  unfold onceS at h1
                  rw [if_pos hs] at h1
                  cases h1
                  exact hxn (HSY.out c hs x hmem)
                obtain ⟨m, hm, hmc⟩ := once_mem l HST.out hns
                have h1 := fresh_put (v := one) hm hmc HV.out
                have h2 := fresh_mono (l := l) k4
                refine HIH.out x kvj W' (by have := HD.out; omega) hEj k1 k2 fun g hg => ?_
                rcases (k3 g).1 hg with rfl | hg
                · exact .one ⟨ys0, HST.out, hmem⟩
                · exact .more (HG.out g hg) ⟨ys0, HST.out, hmem⟩
            refine hcall.mono ?_
            rintro e w5 ⟨r, kv5, rfl, p1, p2, p3, p4⟩
            refine ⟨r, rfl, fun hr => ?_, fun hr => ⟨kv5, p1, k5.trans p2, p4 hr⟩⟩
            obtain ⟨q1, q2, q3, q4⟩ := p3 hr
            refine ⟨kv5, p1, q2, fun y => (q3 y).trans (k3 y), fun y hy => q4 y (k4 y hy), k5.trans p2, fun i y hi hy => ?_⟩
            rcases Nat.lt_or_ge i j with h1 | h1
            · exact k6 i y h1 hy
            · obtain rfl : i = j := by omega
              rw [hx] at hy; cases hy
              exact q1
          · rintro e w3 ⟨r, rfl, h1, h2⟩
            cases r
            · obtain ⟨kvj, k1, k2, k3, k4, k5, k6⟩ := h1 rfl
              have HE3 := Lib.hid (HE2.out.turn HM2.out k5)
              have hEnd : Ends (onceS l true) c := Ends.node HST.out (upto_all k6 HY.out.len)
              obtain ⟨w4, hu, hM4, hz4, hg4⟩ := k1.update keyInt okK encK_inj Tryz.underlying133 c two
              have hu2 : (Instr.mapUpdate 133 (.map (some bs)) (.int .i64 c) (.int .i64 2)).run Tryz.prog w3 = .ok () w4 := hu
              have FIN := Lib.hid (show VisPost bs (onceS l true) kv c W (.returned (.bool false)) w4 from ⟨false, put kvj c two, rfl, hM4, ((Turn.of HB.out).trans HT2.out).trans (k5.trans hg4), fun _ => ⟨hEnd, stInv_put k2 (.inr ⟨rfl, hEnd⟩) (by rw [HST.out]; simp), fun x => by
                rw [look_put]
                by_cases e : x = c
                · subst e
                  rw [if_pos rfl, HV.out]; constructor <;> intro h <;> cases h
                · rw [if_neg e, k3 x]; simp [e], fun x hx => by
                rw [look_put]
                by_cases e : x = c
                · rw [if_pos e]; simp
                · rw [if_neg e]
                  refine k4 x ?_
                  rw [look_put, if_neg e]; exact hx⟩, nofun⟩)
              have cc4 := HE3.out.c2
              clear h1 h2 k1 k2 k3 k4 k5 k6 hu hM4 hz4 hg4 hEnd hu' hlk'
              go_wp2_with fail
              go_ret
              exact FIN.out
            · obtain ⟨kvj, k1, k5, hring⟩ := h2 rfl
              have HE3 := Lib.hid (HE2.out.turn HM2.out k5)
              obtain ⟨w4, hu, hM4, hz4, hg4⟩ := k1.update keyInt okK encK_inj Tryz.underlying133 c two
              have hu2 : (Instr.mapUpdate 133 (.map (some bs)) (.int .i64 c) (.int .i64 2)).run Tryz.prog w3 = .ok () w4 := hu
              have FIN := Lib.hid (show VisPost bs (onceS l true) kv c W (.returned (.bool true)) w4 from ⟨true, put kvj c two, rfl, hM4, ((Turn.of HB.out).trans HT2.out).trans (k5.trans hg4), nofun, fun _ => hring⟩)
              have cc4 := HE3.out.c2
              clear h1 h2 k1 k5 hu hM4 hz4 hg4 hring hu' hlk'
              go_wp2_with fail
              go_ret
              exact FIN.out
        · rw [HST.out] at h0; cases h0
end
end Go.Proofs.YtfeofhinpgodoaaGreatDoor

namespace Go.Proofs.YtfeofhinpgodoaaGreatDoor
open Go.RowKit Go.Shelf Go.MapKept
open Go.ChangeMaps (setBlock)

theorem uniq_born : ∀ {l : List MapEntry}, l.Pairwise (fun x y => x.born ≠ y.born) → ∀ {x y : MapEntry}, x ∈ l → y ∈ l → x.born = y.born → x = y
  | [], _, _, _, hx, _, _ => by cases hx
  | a :: l, h, x, y, hx, hy, e => by
    obtain ⟨h1, h2⟩ := List.pairwise_cons.1 h
    rcases List.mem_cons.1 hx with ex | hx'
    · rcases List.mem_cons.1 hy with ey | hy'
      · rw [ex, ey]
      · exact absurd (by rw [← ex]; exact e) (h1 y hy')
    · rcases List.mem_cons.1 hy with ey | hy'
      · exact absurd (by rw [← ey]; exact e.symm) (h1 x hx')
      · exact uniq_born h2 hx' hy' e

section
variable {κ : Type} {enc : κ → Value} {b r : Nat} {kv : List (κ × Value)} {P : Program}

def RangeAt (enc : κ → Value) (b r : Nat) (kv : List (κ × Value)) (cnt : Nat) (Done : κ → Prop) (w : World) : Prop :=
  ∃ es clock since seen c0, w.heap[b]? = some (.map es clock) ∧ es.toList.map (fun e => (e.key, e.val)) = kv.map (fun p => (enc p.1, p.2)) ∧ Stamped es clock ∧ w.heap[r]? = some (.mapIter (some b) since seen c0) ∧
    (∀ x ∈ es.toList, x.born < since) ∧ since ≤ c0 ∧ since ≤ clock ∧ (leftOf es seen).size = cnt ∧ ∀ p ∈ kv, Done p.1 ∨ ∃ x ∈ es.toList, x.key = enc p.1 ∧ seen.contains x.born = false
theorem RangeAt.map {cnt : Nat} {Done : κ → Prop} {w : World} (h : RangeAt enc b r kv cnt Done w) : MapAt enc b kv w := by
  obtain ⟨es, clock, _, _, _, h1, h2, h3, _⟩ := h
  exact ⟨es, clock, h1, h2, h3⟩
theorem RangeAt.same {cnt : Nat} {Done : κ → Prop} {w w1 : World} (h : RangeAt enc b r kv cnt Done w) (hb : w1.heap[b]? = w.heap[b]?) (hr : w1.heap[r]? = w.heap[r]?) : RangeAt enc b r kv cnt Done w1 := by
  obtain ⟨es, clock, since, seen, c0, h1, h2, h3, h4, h5⟩ := h
  exact ⟨es, clock, since, seen, c0, hb.trans h1, h2, h3, hr.trans h4, h5⟩
theorem RangeAt.lt {cnt : Nat} {Done : κ → Prop} {w : World} (h : RangeAt enc b r kv cnt Done w) : b < w.heap.size ∧ r < w.heap.size := by
  obtain ⟨es, clock, since, seen, c0, h1, _, _, h4, _⟩ := h
  exact ⟨(Array.getElem?_eq_some_iff.1 h1).1, (Array.getElem?_eq_some_iff.1 h4).1⟩

theorem MapAt.range {w : World} {t k e : TypeId} (h : MapAt enc b kv w) (ht : P.underlying t = some (.map k e)) :
    ∃ w', (Instr.range t (.map (some b))).run P w = .ok (.pointer (some ⟨w.heap.size, 0, none⟩)) w' ∧ (∃ cnt, RangeAt enc b w.heap.size kv cnt (fun _ => False) w') ∧ Below w.heap.size w w' ∧ w'.heap.size = w.heap.size + 1 := by
  have hlt := h.lt
  obtain ⟨es, clock, hb, hm, hs⟩ := h
  refine ⟨_, run_range_map w t k e b es clock ht hb, ⟨_, es, clock, clock, #[], clock, ((heap_alloc w _).2 b hlt).trans hb, hm, hs, (heap_alloc w _).1, hs.1, Nat.le_refl _, Nat.le_refl _, rfl, fun p hp => .inr ?_⟩, (Below.refl _ _).alloc (Nat.le_refl _) _, by simp⟩
  have : (enc p.1, p.2) ∈ es.toList.map (fun e => (e.key, e.val)) := hm ▸ List.mem_map.2 ⟨p, hp, rfl⟩
  obtain ⟨x, hx, hpx⟩ := List.mem_map.1 this
  simp at hpx
  exact ⟨x, hx, hpx.1, by simp⟩

theorem RangeAt.next {cnt : Nat} {Done : κ → Prop} {w : World} (h : RangeAt enc b r kv cnt Done w) (hinj : ∀ a c, enc a = enc c → a = c) (ty : TypeId) :
    (cnt = 0 ∧ (∀ p ∈ kv, Done p.1) ∧ (Instr.next (.pointer (some ⟨r, 0, none⟩)) false ty).run P w = .ok (.tuple #[.bool false]) w) ∨
    ∃ p w' cnt', p ∈ kv ∧ (Instr.next (.pointer (some ⟨r, 0, none⟩)) false ty).run P w = .ok (.tuple #[.bool true, enc p.1, p.2]) w' ∧ RangeAt enc b r kv cnt' (fun a => Done a ∨ a = p.1) w' ∧ cnt' < cnt ∧ w.grownBy w' (some r) ∧ w'.heap.size = w.heap.size ∧
      (Instr.entry (.pointer (some ⟨r, 0, none⟩))).run P w' = .ok (.tuple #[enc p.1, p.2]) w' := by
  obtain ⟨es, clock, since, seen, c0, hb, hm, hs, hr, hold, hsc, hsk, rfl, hd⟩ := h
  have hne : r ≠ b := by
    rintro rfl
    rw [hb] at hr; cases hr
  rcases run_next_at (P := P) w ty r b since c0 seen es clock hr hb hold hsc with ⟨h0, hrun⟩ | ⟨e, he, w1, hal, hrun⟩
  · refine .inl ⟨h0, fun p hp => ?_, hrun⟩
    rcases hd p hp with h | ⟨x, hx, _, hxs⟩
    · exact h
    · have := all_seen es seen h0 x hx
      rw [hxs] at this; cases this
  · obtain ⟨hem, hes⟩ := mem_left he
    have : (e.key, e.val) ∈ kv.map (fun p => (enc p.1, p.2)) := hm ▸ List.mem_map.2 ⟨e, hem, rfl⟩
    obtain ⟨p, hp, hpe⟩ := List.mem_map.1 this
    simp at hpe
    have hr1 : w1.heap[r]? = some (.mapIter (some b) since seen c0) := by rcases hal with rfl | rfl <;> exact hr
    have hb1 : w1.heap[b]? = some (.map es clock) := by rcases hal with rfl | rfl <;> exact hb
    have hset := heap_set (o' := .mapIter (some b) since (seen.push e.born) clock) hr1
    have hb' : (setBlock w1 r (.mapIter (some b) since (seen.push e.born) clock)).heap[b]? = some (.map es clock) := (hset.2 b (fun e1 => hne e1.symm)).trans hb1
    refine .inr ⟨p, _, _, hp, by rw [hpe.1, hpe.2]; exact hrun, ⟨es, clock, since, seen.push e.born, clock, hb', hm, hs, hset.1, hold, hsk, hsk, rfl, fun q hq => ?_⟩, left_shrinks es seen e he, ?_, ?_,
      by rw [hpe.1, hpe.2]; exact run_entry_at _ r b since seen es clock e hset.1 hb' hem ((stamped_iff es clock).1 hs).2.1⟩
    · rcases hd q hq with h | ⟨x, hx, hxk, hxs⟩
      · exact .inl (.inl h)
      · by_cases hxe : x.born = e.born
        · have hxe2 : x = e := by
            have hnd := ((stamped_iff es clock).1 hs).2.1
            exact uniq_born (List.pairwise_map.1 hnd) hx hem hxe
          subst hxe2
          exact .inl (.inr (hinj _ _ (hxk.symm.trans hpe.1.symm)))
        · refine .inr ⟨x, hx, hxk, ?_⟩
          rw [contains_push, hxs]
          simpa using hxe
    · rcases hal with rfl | rfl <;> exact ⟨rfl, rfl, rfl, by simp [setBlock], fun i _ hi => hset.2 i (fun e1 => hi (by rw [e1]))⟩
    · rcases hal with rfl | rfl <;> simp [setBlock]

theorem wpList_range_at {ops : Array Oper} {rest : List Oper} {o : Oper} {a : Act} {Q : Exit → Act → World → Prop} {w : World} (hg : o.guard = none) (m : Operand) (t k e : TypeId) (hop : o.op = Op.range t m) (ht : P.underlying t = some (.map k e)) (hm : a.eval m = .map (some b)) (h : MapAt enc b kv w)
    (hK : ∀ w' cnt, RangeAt enc b w.heap.size kv cnt (fun _ => False) w' → Below w.heap.size w w' → w'.heap.size = w.heap.size + 1 → wpList P ops Q rest (a.put o.dst (.pointer (some ⟨w.heap.size, 0, none⟩))) w') : wpList P ops Q (o :: rest) a w := by
  refine wpList_plain hg fun K' hK' => ?_
  obtain ⟨w', hrun, ⟨cnt, r1⟩, r2, r3⟩ := h.range (P := P) ht
  unfold Oper.wp
  simp [execOp, hop, hm, hrun, Result.andThen]
  exact hK' _ _ (hK w' cnt r1 r2 r3)
theorem wpList_next_at {ops : Array Oper} {rest : List Oper} {o : Oper} {a : Act} {Q : Exit → Act → World → Prop} {w : World} (hg : o.guard = none) (it : Operand) (hop : o.op = Op.next it false) (hit : a.eval it = .pointer (some ⟨r, 0, none⟩)) (hinj : ∀ a c, enc a = enc c → a = c) (cnt : Nat) (Done : κ → Prop) (h : RangeAt enc b r kv cnt Done w)
    (hDone : (∀ p ∈ kv, Done p.1) → wpList P ops Q rest (a.put o.dst (.tuple #[.bool false])) w)
    (hMore : ∀ p w' cnt', p ∈ kv → RangeAt enc b r kv cnt' (fun a => Done a ∨ a = p.1) w' → cnt' < cnt → w.grownBy w' (some r) → w'.heap.size = w.heap.size → (Instr.entry (.pointer (some ⟨r, 0, none⟩))).run P w' = .ok (.tuple #[enc p.1, p.2]) w' →
      wpList P ops Q rest (a.put o.dst (.tuple #[.bool true, enc p.1, p.2])) w') : wpList P ops Q (o :: rest) a w := by
  refine wpList_plain hg fun K' hK' => ?_
  unfold Oper.wp
  rcases h.next (P := P) hinj o.type with ⟨_, hd, hrun⟩ | ⟨p, w', cnt', hp, hrun, h1, h2, h3, h4, h5⟩
  · simp [execOp, hop, hit, hrun, Result.andThen]
    exact hK' _ _ (hDone hd)
  · simp [execOp, hop, hit, hrun, Result.andThen]
    exact hK' _ _ (hMore p w' cnt' hp h1 h2 h3 h4 h5)
end
end Go.Proofs.YtfeofhinpgodoaaGreatDoor

namespace Go.Proofs.YtfeofhinpgodoaaGreatDoor
open Go.RowKit Go.Shelf

theorem RangeAt.left_eq {κ : Type} {enc : κ → Value} {b r cnt : Nat} {kv : List (κ × Value)} {Done : κ → Prop} {w : World} (h : RangeAt enc b r kv cnt Done w) : w.rangeLeft b r = cnt := by
  obtain ⟨es, clock, since, seen, c0, h1, _, _, h4, _, _, _, h5, _⟩ := h
  unfold World.rangeLeft
  rw [h1, h4]
  exact h5
/-- An iterator's step leaves cells and maps. -/
structure IterTurn (r : Nat) (W W' : World) : Prop where
  it : ∃ m s seen c, W.heap[r]? = some (.mapIter m s seen c)
  g : W.grownBy W' (some r)
theorem IterTurn.cell {r : Nat} {W W' : World} {a : Addr} {v : Value} (h : IterTurn r W W') (hc : W.cell? a = some v) : W'.cell? a = some v := by
  refine grown_cell h.g hc ?_
  obtain ⟨m, s, seen, c, hi⟩ := h.it
  rintro rfl
  simp [World.cell?, hi] at hc
theorem IterTurn.map {κ : Type} {enc : κ → Value} {kv : List (κ × Value)} {b r : Nat} {W W' : World} (h : IterTurn r W W') (hm : MapAt enc b kv W) : MapAt enc b kv W' := by
  obtain ⟨m, s, seen, c, hi⟩ := h.it
  obtain ⟨es, clock, hb, hrest⟩ := hm
  refine ⟨es, clock, (h.g.block b (Array.getElem?_eq_some_iff.1 hb).1 (fun e => ?_)).trans hb, hrest⟩
  cases e
  rw [hb] at hi; cases hi
theorem IterTurn.data {D bm r : Nat} {l : List Mp} {cp : Bool} {W W' : World} (h : IterTurn r W W') (hd : DataM D bm l cp W) : DataM D bm l cp W' := by
  obtain ⟨h1, h2, raw, h3, h4, h5⟩ := hd
  exact ⟨h.cell h1, h.cell h2, raw, h3, h.map h4, fun m hm => ⟨(h5 m hm).len, (h5 m hm).le, fun hn => by
    obtain ⟨bb, o, e, hc⟩ := (h5 m hm).cells hn
    exact ⟨bb, o, e, fun i hi j u hu => h.cell (hc i hi j u hu)⟩⟩⟩
theorem IterTurn.env {D bm B1 B2 B3 bs r : Nat} {l : List Mp} {W W' : World} (h : IterTurn r W W') (hE : VEnv D bm B1 B2 B3 bs l W) : VEnv D bm B1 B2 B3 bs l W' :=
  ⟨h.data hE.data, h.cell hE.c1, h.cell hE.c2, h.cell hE.c3, hE.ne⟩
theorem RangeAt.iter {κ : Type} {enc : κ → Value} {b r cnt : Nat} {kv : List (κ × Value)} {Done : κ → Prop} {w w' : World} (h : RangeAt enc b r kv cnt Done w) (hg : w.grownBy w' (some r)) : IterTurn r w w' := by
  obtain ⟨es, clock, since, seen, c0, h1, _, _, h4, _⟩ := h
  exact ⟨⟨_, _, _, _, h4⟩, hg⟩

theorem ring_from {l : List Mp} (hsy : ∀ c, isSyl c → ∀ x ∈ hdec c, onceS l true x = none) {x : Int} (h : Way (onceS l true) x x) : ∃ m ∈ l, ¬ Ends (onceS l true) m.frm := by
  obtain ⟨y, ⟨ys, hy, hm⟩, hr⟩ := h.head
  by_cases hs : isSyl x
  · have e : ys = hdec x := by unfold onceS at hy; rw [if_pos hs] at hy; exact (Option.some.inj hy).symm
    subst e
    have hn := hsy x hs y hm
    rcases hr with rfl | hr
    · rw [hy] at hn; cases hn
    · obtain ⟨z, ⟨zs, hz, _⟩, _⟩ := hr.head
      rw [hz] at hn; cases hn
  · obtain ⟨m, hml, rfl⟩ := once_mem l hy hs
    exact ⟨m, hml, fun hE => hE.no_ring h⟩

def CycSt (D bm B1 B2 B3 bs r : Nat) (l : List Mp) (raw : List MpC) (w : World) (wr : World) : Prop :=
  ∃ (kvs : List (Int × Value)) (cnt : Nat) (Done : Int → Prop), RangeAt encK bm r (raw.map datE) cnt Done wr ∧ MapAt encK bs kvs wr ∧ StInv (onceS l true) kvs ∧ (∀ x, look kvs x ≠ some one) ∧ (∀ a, Done a → Ends (onceS l true) a) ∧ VEnv D bm B1 B2 B3 bs l wr ∧ Below w.heap.size w wr

set_option maxRecDepth 100000 in
set_option maxHeartbeats 4000000 in
theorem cyclic_any (D bm : Nat) (l : List Mp) (w : World) (hD : DataM D bm l true w) (hsy : ∀ c, isSyl c → ∀ x ∈ hdec c, onceS l true x = none) :
    Calls Tryz.prog 81 #[.pointer (some ⟨D, 0, none⟩)] w (YesPost (∃ m ∈ l, ¬ Ends (onceS l true) m.frm) w) := by
  have HD := Lib.hid hD
  have HSY := Lib.hid hsy
  have hd0 := hD.1
  have hDl : D < w.heap.size := World.block_lt_of_cell? w _ hd0
  obtain ⟨_, _, raw, hraw, hM, _⟩ := hD
  have hbl : bm < w.heap.size := hM.lt
  have HRaw := Lib.hid hraw
  have HMp := Lib.hid hM
  have hmm := @run_makeMap Tryz.prog
  clear hsy hM hraw
  go_enter Tryz.func81, Tryz.ntmps81
  go_upto_region 4 with (fail)
  obtain ⟨W4, hW4⟩ : ∃ W4, W4 = (((w.alloc (.cells #[.pointer (some ⟨D, 0, none⟩)] 100)).alloc (.map #[] 0)).alloc (.cells #[.map (some (w.heap.size + 1))] 133)).alloc (.cells #[.func (.func 115) #[] #[.pointer (some ⟨w.heap.size, 0, none⟩), .pointer (some ⟨w.heap.size + 1 + 1, 0, none⟩), .pointer (some ⟨w.heap.size + 1 + 1 + 1, 0, none⟩)]] 75) := ⟨_, rfl⟩
  rw [← hW4]
  have hB4 : Below w.heap.size w W4 := by rw [hW4]; repeat (first | exact Below.refl _ _ | refine Below.alloc ?_ (by first | exact Nat.le_refl _ | (simp; done) | (simp; omega)) _)
  have HE4 : Hid (VEnv D bm w.heap.size (w.heap.size + 1 + 1) (w.heap.size + 1 + 1 + 1) (w.heap.size + 1) l W4) := ⟨HD.out.below hB4, by rw [hW4]; go_simp, by rw [hW4]; go_simp, by rw [hW4]; go_simp, by omega⟩
  have HM4 := Lib.hid (HMp.out.below hB4)
  have HK4 : Hid (MapAt encK (w.heap.size + 1) [] W4) := by
    have h := MapAt.made encK (w.alloc (.cells #[.pointer (some ⟨D, 0, none⟩)] 100))
    rw [show (w.alloc (.cells #[.pointer (some ⟨D, 0, none⟩)] 100)).heap.size = w.heap.size + 1 by simp] at h
    rw [hW4]
    exact (h.below (ba _ _)).below (ba _ _)
  have HB4 := Lib.hid hB4
  have d4 := HE4.out.data.1
  have e4 := HE4.out.c1
  clear hB4 hW4 hd0
  go_wp2_with (at_range; refine wpList_range_at rfl _ _ _ _ rfl Tryz.underlying129 rfl HM4.out ?_; intro w5 cnt hra hb5 hz5)
  have HE5 := Lib.hid (HE4.out.turn HK4.out (Turn.of hb5))
  have HK5 := Lib.hid (HK4.out.below hb5)
  have HR5 := Lib.hid hra
  have HB5 := Lib.hid (bthen HB4.out hb5)
  clear hra hb5 hz5 d4 e4
  have HrB := Lib.hid (show W4.heap.size ≠ w.heap.size + 1 by have := HK4.out.lt; omega)
  clear HM4 HK4 HE4
  go_frame
  go_loopw [5] (fun _ wr => Hid (CycSt D bm w.heap.size (w.heap.size + 1 + 1) (w.heap.size + 1 + 1 + 1) (w.heap.size + 1) W4.heap.size l raw w wr)) (fun _ wr => wr.rangeLeft bm W4.heap.size)
  case atStart => exact ⟨[], cnt, fun _ => False, HR5.out, HK5.out, ⟨fun a v h => by simp [look_nil] at h, fun x h => by simp [look_nil] at h, fun x h => absurd (look_nil x) h⟩, fun x h => by simp [look_nil] at h, fun a h => h.elim, HE5.out, HB5.out⟩
  case round =>
    have hrel := hrel.out
    obtain ⟨kvs, cn, Done, k1, k2, k3, k4, k5, k6, k7⟩ := hrel
    obtain ⟨wo, rfl⟩ : ∃ wo : World, wo = wr := ⟨_, rfl⟩
    have HR := Lib.hid k1; have HK := Lib.hid k2; have HI := Lib.hid k3; have HN := Lib.hid k4; have HDn := Lib.hid k5; have HE := Lib.hid k6; have HB := Lib.hid k7
    clear k1 k2 k3 k4 k5 k6 k7 HR5 HK5 HE5 HB5
    go_wp2_with (at_next; refine wpList_next_at rfl _ rfl rfl encK_inj cn Done HR.out (fun hd => ?_) (fun p w6 cn2 hp hra hlt hg hz hen => have c36 := ((HR.out.iter hg).env HE.out).c3; ?_))
    · go_ret
      refine ⟨false, rfl, ⟨nofun, fun ⟨m, hm, hne⟩ => absurd ?_ hne⟩, HB.out⟩
      rw [← HRaw.out] at hm
      obtain ⟨x, hx, rfl⟩ := List.mem_map.1 hm
      exact HDn.out _ (hd (datE x) (List.mem_map.2 ⟨x, hx, rfl⟩))
    · have HE6 := Lib.hid ((HR.out.iter hg).env HE.out)
      have HK6 := Lib.hid ((HR.out.iter hg).map HK.out)
      have HR6 := Lib.hid hra
      have HLt := Lib.hid hlt
      have hW4 := HB4.out.size
      have HB6 := Lib.hid (HB.out.grown hg HB.out.size (fun r e => by cases e; exact hW4))
      clear hp hra hlt hg hz hen c36
      refine (vis_any D bm _ _ _ (w.heap.size + 1) l HSY.out (fresh l kvs + 1) p.1 kvs w6 (Nat.lt_succ_self _) HE6.out HK6.out HI.out (fun g hg => absurd hg (HN.out g))).mono ?_
      rintro e w7 ⟨r, kv7, rfl, q1, q2, q3, q4⟩
      have HB7 := Lib.hid (HB6.out.grown q2 HB6.out.size (fun r e => by cases e; omega))
      cases r
      · obtain ⟨t1, t2, t3, t4⟩ := q3 rfl
        have HRA := Lib.hid (HR6.out.same (q2.block bm HR6.out.lt.1 (fun e => by cases e; omega)) (q2.block W4.heap.size HR6.out.lt.2 (fun e => HrB.out (Option.some.inj e))))
        have HSt : Hid (CycSt D bm w.heap.size (w.heap.size + 1 + 1) (w.heap.size + 1 + 1 + 1) (w.heap.size + 1) W4.heap.size l raw w w7) :=
          ⟨kv7, cn2, fun a => Done a ∨ a = p.1, HRA.out, q1, t2, fun x h => HN.out x ((t3 x).1 h), fun a h => h.elim (HDn.out a) (fun e => e ▸ t1), HE6.out.turn HK6.out q2, HB7.out⟩
        clear q1 q2 q3 q4 t1 t2 t3 t4
        go_wp2_with fail
        go_roundw
        case rel => exact HSt
        case measure => rw [HRA.out.left_eq, HR.out.left_eq]; exact HLt.out
      · obtain ⟨x, hx⟩ := q4 rfl
        have HX := Lib.hid (ring_from HSY.out hx)
        clear q1 q2 q3 q4 hx
        go_wp2_with fail
        go_ret
        exact ⟨true, rfl, ⟨fun _ => HX.out, fun _ => rfl⟩, HB7.out⟩
end Go.Proofs.YtfeofhinpgodoaaGreatDoor

namespace Go.Proofs.YtfeofhinpgodoaaGreatDoor
open Go.RowKit Go.Shelf

theorem bag_snoc (l : List Nat) (x : Nat) : bag (l ++ [x]) = min (bag l + x) 65 := by unfold bag; rw [List.foldl_append]; rfl
theorem bag_le : ∀ l : List Nat, bag l ≤ 65 := by
  intro l
  rcases List.eq_nil_or_concat l with rfl | ⟨m, x, rfl⟩
  · simp [bag]
  · rw [List.concat_eq_append, bag_snoc]; omega
theorem sz_le (step : Int → Option (List Int)) {c : Int} (h : Ends step c) : sz step c ≤ 65 := by
  cases e : step c with
  | none => rw [sz_none e]; omega
  | some l => rw [sz_some h e]; have := bag_le (l.map (sz step)); omega

structure LEnv (D bm B1 B2 B3 bs : Nat) (l : List Mp) (cp : Bool) (W : World) : Prop where
  data : DataM D bm l cp W
  c1 : W.cell? ⟨B1, 0, none⟩ = some (.pointer (some ⟨D, 0, none⟩))
  c2 : W.cell? ⟨B2, 0, none⟩ = some (.map (some bs))
  c3 : W.cell? ⟨B3, 0, none⟩ = some (.func (.func 118) #[] #[.pointer (some ⟨B1, 0, none⟩), .pointer (some ⟨B2, 0, none⟩), .pointer (some ⟨B3, 0, none⟩)])
  ne : bm ≠ bs
theorem LEnv.turn {D bm B1 B2 B3 bs : Nat} {l : List Mp} {cp : Bool} {W W' : World} {kv : List (Int × Value)} (h : LEnv D bm B1 B2 B3 bs l cp W) (hm : MapAt encK bs kv W) (ht : Turn bs W W') : LEnv D bm B1 B2 B3 bs l cp W' :=
  ⟨ht.dataM hm h.data h.ne, ht.cell hm h.c1, ht.cell hm h.c2, ht.cell hm h.c3, h.ne⟩
theorem IterTurn.lenv {D bm B1 B2 B3 bs r : Nat} {l : List Mp} {cp : Bool} {W W' : World} (h : IterTurn r W W') (hE : LEnv D bm B1 B2 B3 bs l cp W) : LEnv D bm B1 B2 B3 bs l cp W' :=
  ⟨h.data hE.data, h.cell hE.c1, h.cell hE.c2, h.cell hE.c3, hE.ne⟩
def SzInv (step : Int → Option (List Int)) (kv : List (Int × Value)) : Prop := ∀ a v, look kv a = some v → v = .int .i64 (sz step a : Int)
theorem SzInv.put {step : Int → Option (List Int)} {kv : List (Int × Value)} {c : Int} {v : Value} (h : SzInv step kv) (hv : v = .int .i64 (sz step c : Int)) : SzInv step (put kv c v) := fun a u hu => by
  rw [look_put] at hu
  split at hu
  · rename_i e; cases hu; rw [e]; exact hv
  · exact h a u hu
def CntPost (bs : Nat) (step : Int → Option (List Int)) (c : Int) (W : World) (e : Ending) (W' : World) : Prop :=
  ∃ kv' : List (Int × Value), e = .returned (.int .i64 (sz step c : Int)) ∧ MapAt encK bs kv' W' ∧ Turn bs W W' ∧ SzInv step kv'

set_option maxRecDepth 100000 in
set_option maxHeartbeats 4000000 in
theorem count_any (D bm B1 B2 B3 bs : Nat) (l : List Mp) (cp : Bool) (c : Int) (hends : Ends (onceS l cp) c) : ∀ (kv : List (Int × Value)) (W : World), LEnv D bm B1 B2 B3 bs l cp W → MapAt encK bs kv W → SzInv (onceS l cp) kv →
    Calls Tryz.prog 118 #[.int .i64 c, .pointer (some ⟨B1, 0, none⟩), .pointer (some ⟨B2, 0, none⟩), .pointer (some ⟨B3, 0, none⟩)] W (CntPost bs (onceS l cp) c W) := by
  induction hends with
  | intro c hacc ih =>
    intro kv W hE hM hI
    have hends : Ends (onceS l cp) c := ⟨_, hacc⟩
    have HEn := Lib.hid hends
    have HE := Lib.hid hE; have HM := Lib.hid hM; have HI := Lib.hid hI; have HIH := Lib.hid ih
    have cc1 := hE.c1
    have he' : ∀ args w, (callFunc 118 args).run Tryz.prog w = .ok (.enter 118 args) w := enters_of Tryz.func118 (by kernel_rfl) rfl
    clear hE hM hI ih hends
    cases hst : onceS l cp c with
    | none =>
      have HS := Lib.hid (sz_none hst)
      have HST := Lib.hid hst
      clear hst
      go_enter Tryz.func118, Tryz.ntmps118
      go_wp2_with fail
      refine (once_any D bm l cp c W HE.out.data).mono ?_
      rintro e w1 (⟨A, n, c', ys, h0, _⟩ | ⟨_, rfl, hb⟩)
      · rw [HST.out] at h0; cases h0
      · have HB := Lib.hid hb
        clear hb
        go_wp2_with fail
        go_ret
        exact ⟨kv, by rw [HS.out]; rfl, HM.out.below HB.out, Turn.of HB.out, HI.out⟩
    | some ys0 =>
      have HS := Lib.hid (sz_some HEn.out hst)
      have HST := Lib.hid hst
      clear hst
      go_enter Tryz.func118, Tryz.ntmps118
      go_wp2_with fail
      refine (once_any D bm l cp c W HE.out.data).mono ?_
      rintro e w1 (⟨A, n, c', ys, h0, hy, rfl, hb⟩ | ⟨h0, _⟩)
      · have hys : ys0 = ys := Option.some.inj (HST.out.symm.trans h0)
        subst hys
        have HY := Lib.hid hy
        have hn := hy.bd
        have HYl := Lib.hid hy.len
        have HB := Lib.hid hb
        have cc2 := bcel hb HE.out.c2
        have HM1 := Lib.hid (HM.out.below hb)
        have HE1 := Lib.hid (HE.out.turn HM.out (Turn.of hb))
        have hlk := HM1.out.lookup keyInt okK encK_inj Tryz.underlying133 (zeroI w1) c true
        cases hv : look kv c with
        | some v =>
          have hvv := HI.out c v hv
          subst hvv
          rw [hv] at hlk
          have hlk' : (Instr.lookup 133 (.map (some bs)) (.int .i64 c) true).run Tryz.prog w1 = .ok (.tuple #[.int .i64 (sz (onceS l cp) c : Int), .bool true]) w1 := hlk
          clear hlk hv h0 hy hb
          go_wp2_with fail
          go_ret
          exact ⟨kv, rfl, HM1.out, Turn.of HB.out, HI.out⟩
        | none =>
          rw [hv] at hlk
          have hlk' : (Instr.lookup 133 (.map (some bs)) (.int .i64 c) true).run Tryz.prog w1 = .ok (.tuple #[.int .i64 0, .bool false]) w1 := hlk
          clear hlk hv h0 hy hb
          go_wp2_with fail
          go_loopw [10, 31] (fun s r wr => ∃ (k m : Nat) (kvk : List (Int × Value)), k ≤ n ∧ m ≤ 65 ∧ s = .int .i64 (m : Int) ∧ r = .int .i64 (k : Int) ∧ Hid (m = bag ((ys0.take k).map (sz (onceS l cp)))) ∧ Hid (MapAt encK bs kvk wr) ∧ Hid (SzInv (onceS l cp) kvk) ∧ Hid (Turn bs w1 wr)) (fun _ r _ => n - (intOf r).toNat)
          case atStart => exact ⟨0, 0, kv, by omega, by omega, by go_num, by go_num, rfl, HM1, HI, Turn.refl _ _⟩
          case round =>
            obtain ⟨k, m, kvk, hk, hm65, rfl, rfl, HMb, HMk, HIk, HTk⟩ := hrel
            obtain ⟨wo, rfl⟩ : ∃ wo : World, wo = wr := ⟨_, rfl⟩
            have HEk := Lib.hid (HE1.out.turn HM1.out HTk.out)
            have cc3 := HEk.out.c3
            by_cases hlt : k < n
            · obtain ⟨b, o, rfl⟩ := HY.out.addr (by omega)
              obtain ⟨x, hx, cx⟩ := RdI.elt (HTk.out.rd HM1.out HY.out) hlt
              have HX := Lib.hid (show ys0[k]? = some x from hx.out)
              have hlt' : (k : Int) < (n : Int) := by omega
              have HLd := Lib.hid (show Leads (onceS l cp) c x from ⟨ys0, HST.out, List.mem_of_getElem? HX.out⟩)
              have hxs := sz_le (onceS l cp) (HEn.out.inv HLd.out)
              obtain ⟨z, hz⟩ : ∃ z, z = sz (onceS l cp) x := ⟨_, rfl⟩
              rw [← hz] at hxs
              have HZ := Lib.hid hz
              have HBg := Lib.hid (show min (m + z) 65 = bag ((ys0.take (k + 1)).map (sz (onceS l cp))) by
                rw [List.take_add_one, HX.out, HMb.out, HZ.out]
                simp [bag_snoc])
              clear hx hz
              go_wp2_with fail
              refine (HIH.out x HLd.out kvk wo HEk.out HMk.out HIk.out).mono ?_
              rintro e w5 ⟨kv5, rfl, q1, q2, q3⟩
              rw [← HZ.out]
              have HM5 := Lib.hid q1
              have HT5 := Lib.hid (HTk.out.trans q2)
              have HI5 := Lib.hid q3
              have hmin : min ((m : Int) + (z : Int)) 65 = ((min (m + z) 65 : Nat) : Int) := by omega
              clear q1 q2 q3
              go_wp2_with fail
              go_roundw
              case rel => exact ⟨k + 1, min (m + z) 65, kv5, by omega, by omega, by rw [← hmin], by go_num, HBg.out, HM5.out, HI5.out, HT5.out⟩
              case measure => simp [intOf]; omega
            · have e : k = n := by omega
              subst e
              have hlt' : ¬ (k : Int) < (k : Int) := by omega
              have hsz : sz (onceS l cp) c = max m 1 := by rw [HS.out, HMb.out, List.take_of_length_le (by rw [HYl.out]; exact Nat.le_refl _)]
              have hmx : max (m : Int) 1 = (sz (onceS l cp) c : Int) := by rw [hsz]; omega
              have HMx := Lib.hid hmx
              have cc4 := HEk.out.c2
              obtain ⟨w4, hu, hM4, hz4, hg4⟩ := HMk.out.update keyInt okK encK_inj Tryz.underlying133 c (.int .i64 (max (m : Int) 1))
              have hu2 : (Instr.mapUpdate 133 (.map (some bs)) (.int .i64 c) (.int .i64 (max (m : Int) 1))).run Tryz.prog wo = .ok () w4 := hu
              have HM4 := Lib.hid hM4
              have HT4 := Lib.hid (show Turn bs wo w4 from hg4)
              have cc5 := (HEk.out.turn HMk.out HT4.out).c2
              have hl4 := hM4.lookup keyInt okK encK_inj Tryz.underlying133 (zeroI w4) c false
              rw [look_put, if_pos rfl] at hl4
              have hl4' : (Instr.lookup 133 (.map (some bs)) (.int .i64 c) false).run Tryz.prog w4 = .ok (.int .i64 (max (m : Int) 1)) w4 := hl4
              clear hu hM4 hz4 hg4 hl4 hsz hmx hlk'
              go_wp2_with fail
              go_ret
              exact ⟨put kvk c (.int .i64 (max (m : Int) 1)), by rw [HMx.out]; rfl, HM4.out, ((Turn.of HB.out).trans HTk.out).trans HT4.out, HIk.out.put (by rw [HMx.out])⟩
      · rw [HST.out] at h0; cases h0

def LongSt (D bm B1 B2 B3 bs r : Nat) (l : List Mp) (cp : Bool) (raw : List MpC) (w : World) (wr : World) : Prop :=
  ∃ (kvs : List (Int × Value)) (cnt : Nat) (Done : Int → Prop), RangeAt encK bm r (raw.map datE) cnt Done wr ∧ MapAt encK bs kvs wr ∧ SzInv (onceS l cp) kvs ∧ (∀ a, Done a → sz (onceS l cp) a ≤ 64) ∧ LEnv D bm B1 B2 B3 bs l cp wr ∧ Below w.heap.size w wr

set_option maxRecDepth 100000 in
set_option maxHeartbeats 4000000 in
theorem long_any (D bm : Nat) (l : List Mp) (cp : Bool) (w : World) (hD : DataM D bm l cp w) (hends : ∀ m ∈ l, Ends (onceS l cp) m.frm) :
    Calls Tryz.prog 82 #[.pointer (some ⟨D, 0, none⟩)] w (YesPost (∃ m ∈ l, 64 < sz (onceS l cp) m.frm) w) := by
  have HD := Lib.hid hD
  have HEnds := Lib.hid hends
  have hd0 := hD.1
  have hDl : D < w.heap.size := World.block_lt_of_cell? w _ hd0
  obtain ⟨_, _, raw, hraw, hM, _⟩ := hD
  have hbl : bm < w.heap.size := hM.lt
  have HRaw := Lib.hid hraw
  have HMp := Lib.hid hM
  have hmm := @run_makeMap Tryz.prog
  clear hends hM hraw
  go_enter Tryz.func82, Tryz.ntmps82
  go_upto_region 4 with (fail)
  obtain ⟨W4, hW4⟩ : ∃ W4, W4 = (((w.alloc (.cells #[.pointer (some ⟨D, 0, none⟩)] 100)).alloc (.map #[] 0)).alloc (.cells #[.map (some (w.heap.size + 1))] 133)).alloc (.cells #[.func (.func 118) #[] #[.pointer (some ⟨w.heap.size, 0, none⟩), .pointer (some ⟨w.heap.size + 1 + 1, 0, none⟩), .pointer (some ⟨w.heap.size + 1 + 1 + 1, 0, none⟩)]] 49) := ⟨_, rfl⟩
  rw [← hW4]
  have hB4 : Below w.heap.size w W4 := by rw [hW4]; repeat (first | exact Below.refl _ _ | refine Below.alloc ?_ (by first | exact Nat.le_refl _ | (simp; done) | (simp; omega)) _)
  have HE4 : Hid (LEnv D bm w.heap.size (w.heap.size + 1 + 1) (w.heap.size + 1 + 1 + 1) (w.heap.size + 1) l cp W4) := ⟨HD.out.below hB4, by rw [hW4]; go_simp, by rw [hW4]; go_simp, by rw [hW4]; go_simp, by omega⟩
  have HM4 := Lib.hid (HMp.out.below hB4)
  have HK4 : Hid (MapAt encK (w.heap.size + 1) [] W4) := by
    have h := MapAt.made encK (w.alloc (.cells #[.pointer (some ⟨D, 0, none⟩)] 100))
    rw [show (w.alloc (.cells #[.pointer (some ⟨D, 0, none⟩)] 100)).heap.size = w.heap.size + 1 by simp] at h
    rw [hW4]
    exact (h.below (ba _ _)).below (ba _ _)
  have HB4 := Lib.hid hB4
  have d4 := HE4.out.data.1
  have e4 := HE4.out.c1
  clear hB4 hW4 hd0
  go_wp2_with (at_range; refine wpList_range_at rfl _ _ _ _ rfl Tryz.underlying129 rfl HM4.out ?_; intro w5 cnt hra hb5 hz5)
  have HE5 := Lib.hid (HE4.out.turn HK4.out (Turn.of hb5))
  have HK5 := Lib.hid (HK4.out.below hb5)
  have HR5 := Lib.hid hra
  have HB5 := Lib.hid (bthen HB4.out hb5)
  clear hra hb5 hz5 d4 e4
  have HrB := Lib.hid (show W4.heap.size ≠ w.heap.size + 1 by have := HK4.out.lt; omega)
  clear HM4 HK4 HE4
  go_frame
  go_loopw [5] (fun _ wr => Hid (LongSt D bm w.heap.size (w.heap.size + 1 + 1) (w.heap.size + 1 + 1 + 1) (w.heap.size + 1) W4.heap.size l cp raw w wr)) (fun _ wr => wr.rangeLeft bm W4.heap.size)
  case atStart => exact ⟨[], cnt, fun _ => False, HR5.out, HK5.out, fun a v h => by simp [look_nil] at h, fun a h => h.elim, HE5.out, HB5.out⟩
  case round =>
    have hrel := hrel.out
    obtain ⟨kvs, cn, Done, k1, k2, k3, k5, k6, k7⟩ := hrel
    obtain ⟨wo, rfl⟩ : ∃ wo : World, wo = wr := ⟨_, rfl⟩
    have HR := Lib.hid k1; have HK := Lib.hid k2; have HI := Lib.hid k3; have HDn := Lib.hid k5; have HE := Lib.hid k6; have HB := Lib.hid k7
    clear k1 k2 k3 k5 k6 k7 HR5 HK5 HE5 HB5
    go_wp2_with (at_next; refine wpList_next_at rfl _ rfl rfl encK_inj cn Done HR.out (fun hd => ?_) (fun p w6 cn2 hp hra hlt hg hz hen => have c36 := ((HR.out.iter hg).lenv HE.out).c3; ?_))
    · go_ret
      refine ⟨false, rfl, ⟨nofun, fun ⟨m, hm, hne⟩ => ?_⟩, HB.out⟩
      rw [← HRaw.out] at hm
      obtain ⟨x, hx, rfl⟩ := List.mem_map.1 hm
      have := HDn.out _ (hd (datE x) (List.mem_map.2 ⟨x, hx, rfl⟩))
      have h2 : (datE x).1 = x.mp.frm := rfl
      rw [h2] at this
      omega
    · have HE6 := Lib.hid ((HR.out.iter hg).lenv HE.out)
      have HK6 := Lib.hid ((HR.out.iter hg).map HK.out)
      have HR6 := Lib.hid hra
      have HLt := Lib.hid hlt
      have hW4 := HB4.out.size
      have HB6 := Lib.hid (HB.out.grown hg HB.out.size (fun r e => by cases e; exact hW4))
      have hpe : ∃ m ∈ l, m.frm = p.1 := by
        obtain ⟨x, hx, rfl⟩ := List.mem_map.1 hp
        exact ⟨x.mp, by rw [← HRaw.out]; exact List.mem_map.2 ⟨x, hx, rfl⟩, rfl⟩
      have HPe := Lib.hid hpe
      have hEn : Ends (onceS l cp) p.1 := by obtain ⟨m, hm, e⟩ := hpe; exact e ▸ HEnds.out m hm
      have hs65 := sz_le (onceS l cp) hEn
      clear hp hra hlt hg hz hen c36 hpe
      refine (count_any D bm _ _ _ (w.heap.size + 1) l cp p.1 hEn kvs w6 HE6.out HK6.out HI.out).mono ?_
      rintro e w7 ⟨kv7, rfl, q1, q2, q3⟩
      have HB7 := Lib.hid (HB6.out.grown q2 HB6.out.size (fun r e => by cases e; omega))
      obtain ⟨z, hz⟩ : ∃ z, z = sz (onceS l cp) p.1 := ⟨_, rfl⟩
      rw [← hz] at hs65 ⊢
      by_cases h64 : z ≤ 64
      · have HRA := Lib.hid (HR6.out.same (q2.block bm HR6.out.lt.1 (fun e => by cases e; omega)) (q2.block W4.heap.size HR6.out.lt.2 (fun e => HrB.out (Option.some.inj e))))
        have HSt : Hid (LongSt D bm w.heap.size (w.heap.size + 1 + 1) (w.heap.size + 1 + 1 + 1) (w.heap.size + 1) W4.heap.size l cp raw w w7) :=
          ⟨kv7, cn2, fun a => Done a ∨ a = p.1, HRA.out, q1, q3, fun a h => h.elim (HDn.out a) (fun e => by rw [e, ← hz]; exact h64), HE6.out.turn HK6.out q2, HB7.out⟩
        have g64 : ¬ (64 : Int) < (z : Int) := by omega
        clear q1 q2 q3 hEn hz h64
        go_wp2_with fail
        go_roundw
        case rel => exact HSt
        case measure => rw [HRA.out.left_eq, HR.out.left_eq]; exact HLt.out
      · have g64 : (64 : Int) < (z : Int) := by omega
        have HX := Lib.hid (show ∃ m ∈ l, 64 < sz (onceS l cp) m.frm by obtain ⟨m, hm, e⟩ := HPe.out; exact ⟨m, hm, by rw [e, ← hz]; omega⟩)
        clear q1 q2 q3 hEn hz h64
        go_wp2_with fail
        go_ret
        exact ⟨true, rfl, ⟨fun _ => HX.out, fun _ => rfl⟩, HB7.out⟩
end Go.Proofs.YtfeofhinpgodoaaGreatDoor

namespace Go.Proofs.YtfeofhinpgodoaaGreatDoor
open Go.RowKit Go.Shelf

open Classical in
/-- The first error of the data. -/
noncomputable def normE (sp : List Sp) (l : List Mp) (ex : List Rg) : Int :=
  if chk sp ≠ 0 then chk sp else if mapE l ≠ 0 then mapE l else if ¬ Canon ex then 11 else if kindsE sp l ≠ 0 then kindsE sp l
  else if ∃ m ∈ l, ¬ Ends (onceS l true) m.frm then 12
  else if (∃ m ∈ l, 64 < sz (onceS l true) m.frm) ∨ (∃ m ∈ l, 64 < sz (onceS l false) m.frm) then 13 else 0

theorem ord_lo {a b : Mp} (h : 0 ≤ ordM b a) : a.frm ≤ b.frm := by
  unfold ordM orI cmp3 at h
  rcases Int.lt_or_le b.frm a.frm with h1 | h1
  · rw [if_pos h1] at h; simp at h
  · exact h1
theorem sorted_of {l : List Mp} (h : mapE l = 0) : SortedM l := by
  unfold mapE at h
  split at h
  · rename_i h1; exact absurd h h1
  · split at h
    · assumption
    · cases h
theorem adj_of {sp : List Sp} {l : List Mp} (h : kindsE sp l = 0) : AdjNe l ∧ ∀ m ∈ l, kindF m.frm = 0 := by
  unfold kindsE at h
  split at h
  · cases h
  · rename_i h1
    split at h
    · cases h
    · split at h
      · cases h
      · rename_i h3
        refine ⟨Classical.not_not.1 h1, fun m hm => ?_⟩
        have h4 := List.any_eq_false.1 (Bool.eq_false_iff.2 h3) m hm
        have h5 := of_decide_eq_false (Bool.eq_false_iff.2 h4)
        by_cases e : kindF m.frm = 0
        · exact e
        · exact absurd (.inl e) h5
theorem asc_from {l : List Mp} (h1 : SortedM l) (h2 : AdjNe l) : ∀ (d i : Nat) (a b : Mp), l[i]? = some a → l[i + d + 1]? = some b → a.frm < b.frm
  | 0, i, a, b, ha, hb => by have := ord_lo (h1 i a b ha hb); have := h2 i a b ha hb; omega
  | d + 1, i, a, b, ha, hb => by
    have hlt : i + d + 1 < l.length := by have := (List.getElem?_eq_some_iff.1 hb).1; omega
    have hm := List.getElem?_eq_getElem hlt
    have k1 := asc_from h1 h2 d i a _ ha hm
    have k2 := ord_lo (h1 (i + d + 1) _ b hm hb)
    have k3 := h2 (i + d + 1) _ b hm hb
    omega
theorem diff_of {l : List Mp} (h1 : SortedM l) (h2 : AdjNe l) : Diff l := fun i j a b hij ha hb => by
  obtain ⟨d, rfl⟩ : ∃ d, j = i + d + 1 := ⟨j - i - 1, by omega⟩
  have := asc_from h1 h2 d i a b ha hb
  omega
theorem syl_parts {l : List Mp} {cp : Bool} (h : ∀ m ∈ l, kindF m.frm = 0) : ∀ c, isSyl c → ∀ x ∈ hdec c, onceS l cp x = none := by
  intro c hc x hx
  have hx2 : ¬ isSyl x ∧ kindF x ≠ 0 := by
    unfold hdec at hx
    rw [if_pos hc] at hx
    unfold isSyl at hc
    have key : (4352 ≤ x ∧ x < 4371) ∨ (4449 ≤ x ∧ x < 4470) ∨ (4520 ≤ x ∧ x < 4547) := by
      split at hx
      · simp only [List.mem_cons, List.not_mem_nil, or_false] at hx
        rcases hx with rfl | rfl
        · unfold hL; omega
        · unfold hV; omega
      · rename_i ht
        simp only [List.mem_cons, List.not_mem_nil, or_false] at hx
        rcases hx with rfl | rfl | rfl
        · unfold hL; omega
        · unfold hV; omega
        · unfold hT at ht ⊢; omega
    refine ⟨by unfold isSyl; omega, ?_⟩
    unfold kindF
    rw [if_neg (by omega)]
    rcases key with k | k | k
    · rw [if_pos k]; omega
    · rw [if_neg (by omega), if_pos k]; omega
    · rw [if_neg (by omega), if_neg (by omega), if_pos k]; omega
  unfold onceS
  rw [if_neg hx2.1]
  have : mpAt l x = none := by
    unfold mpAt
    rw [List.find?_eq_none]
    intro m hm
    simp
    intro e
    exact hx2.2 (e ▸ h m hm)
  rw [this]
theorem ends_plain {l : List Mp} {c : Int} (h : Ends (onceS l true) c) : Ends (onceS l false) c := by
  induction h with
  | intro c _ ih =>
    refine ⟨_, fun y ⟨ys, hy, hm⟩ => ih y ⟨ys, ?_, hm⟩⟩
    unfold onceS at hy ⊢
    by_cases hs : isSyl c
    · rw [if_pos hs] at hy ⊢; exact hy
    · rw [if_neg hs] at hy ⊢
      cases hp : mpAt l c with
      | none => rw [hp] at hy; cases hy
      | some m =>
        rw [hp] at hy
        simp only at hy ⊢
        split at hy
        · cases hy
        · rw [if_neg (by simp)]; exact hy

set_option maxRecDepth 100000 in
set_option maxHeartbeats 4000000 in
theorem normCheck_any (A1 A2 A3 : Option Addr) (n1 c1 n2 c2 n3 c3 : Nat) (sp : List Sp) (l : List Mp) (ex : List Rg) (w : World) (hS : RdSp w A1 n1 sp) (hM : RdMp w A2 n2 l) (hX : RdRg w A3 n3 ex) (hbig : n3 ≤ 1000000) (hG : Glob w) :
    Calls Tryz.prog 56 #[.agg #[.slice A1 n1 c1, .slice A2 n2 c2, .slice A3 n3 c3]] w fun e w' => e = .returned (.int .i64 (normE sp l ex)) ∧ Below w.heap.size w w' := by
  obtain ⟨W0, hW0⟩ : ∃ W0, W0 = w.alloc (.cells #[.slice A1 n1 c1, .slice A2 n2 c2, .slice A3 n3 c3] 28) := ⟨_, rfl⟩
  have hb0 : Below w.heap.size w W0 := by rw [hW0]; exact (Below.refl _ _).alloc (Nat.le_refl _) _
  have HC : Hid (W0.cell? ⟨w.heap.size, 0, none⟩ = some (.slice A1 n1 c1) ∧ W0.cell? ⟨w.heap.size, 1, none⟩ = some (.slice A2 n2 c2) ∧ W0.cell? ⟨w.heap.size, 2, none⟩ = some (.slice A3 n3 c3)) := ⟨by rw [hW0]; go_simp, by rw [hW0]; go_simp, by rw [hW0]; go_simp⟩
  have b0 := HC.out.1
  have HB0 := Lib.hid hb0
  have HS := Lib.hid (hS.below hb0); have HM := Lib.hid (hM.below hb0); have HX := Lib.hid (hX.below hb0); have HG := Lib.hid (hG.below hb0)
  clear hS hM hG hX hb0
  go_enter Tryz.func56, Tryz.ntmps56
  go_wp2_with fail
  rw [← hW0]
  clear hW0
  refine (check_any A1 n1 c1 sp W0 HS.out HG.out).mono ?_
  rintro e w1 ⟨rfl, hb⟩
  have HB1 := Lib.hid hb
  have HBw1 := Lib.hid (bthen HB0.out hb)
  clear hb
  by_cases h1 : chk sp = 0
  · have H1 := Lib.hid h1
    rw [h1]
    clear h1
    have b1 := bcel HB1.out HC.out.2.1
    go_wp2_with fail
    refine (mapCheck_any A2 n2 c2 l w1 (HM.out.below HB1.out)).mono ?_
    rintro e w2 ⟨rfl, hb⟩
    have HB2 := Lib.hid (bthen HB1.out hb)
    have HBw2 := Lib.hid (bthen HBw1.out hb)
    clear hb
    by_cases h2 : mapE l = 0
    · have H2 := Lib.hid h2
      rw [h2]
      clear h2 b1
      have b2 := bcel HB2.out HC.out.2.2
      go_wp2_with fail
      refine (validSet_any A3 n3 c3 ex w2 (HX.out.below HB2.out) hbig).mono ?_
      rintro e w3 ⟨r, rfl, hr, hb⟩
      have HB3 := Lib.hid (bthen HB2.out hb)
      have HBw3 := Lib.hid (bthen HBw2.out hb)
      clear hb
      cases r
      · have HN := Lib.hid (show normE sp l ex = 11 by rw [normE, if_neg (fun h => h H1.out), if_neg (fun h => h H2.out), if_pos (fun h => by have := hr.2 h; cases this)])
        clear hr
        go_wp2_with fail
        go_ret
        exact ⟨ret_int HN.out.symm, HBw3.out⟩
      · have H3 := Lib.hid (show Canon ex from hr.1 rfl)
        clear hr b2
        have b0' := bcel HB3.out HC.out.1
        have b1' := bcel HB3.out HC.out.2.1
        have b2' := bcel HB3.out HC.out.2.2
        go_wp2_with fail
        refine (kinds_any A1 A2 A3 n1 c1 n2 c2 n3 c3 sp l w3 (HS.out.below HB3.out) (HM.out.below HB3.out) (HG.out.below HB3.out)).mono ?_
        rintro e w4 ⟨rfl, hb⟩
        have HB4 := Lib.hid (bthen HB3.out hb)
        have HBw4 := Lib.hid (bthen HBw3.out hb)
        clear hb b0' b1' b2'
        by_cases h4 : kindsE sp l = 0
        · have H4 := Lib.hid h4
          rw [h4]
          clear h4
          have HAd := Lib.hid (adj_of H4.out)
          have HDf := Lib.hid (diff_of (sorted_of H2.out) HAd.out.1)
          have b4 := bcel HB4.out HC.out.2.1
          go_wp2_with fail
          refine (load_any A2 n2 c2 l true w4 (HM.out.below HB4.out) HDf.out).mono ?_
          rintro e w5 ⟨D, bm, bf, rfl, hD, _, _, _, _, _, _, _, _, hb⟩
          have HD := Lib.hid hD
          have HB5 := Lib.hid (bthen HB4.out hb)
          have HBw5 := Lib.hid (bthen HBw4.out hb)
          clear hb hD b4
          go_wp2_with fail
          refine (cyclic_any D bm l w5 HD.out (syl_parts HAd.out.2)).mono ?_
          rintro e w6 ⟨r, rfl, hr, hb⟩
          have HB6 := Lib.hid (bthen HB5.out hb)
          have HBw6 := Lib.hid (bthen HBw5.out hb)
          have HD6 := Lib.hid (HD.out.below hb)
          clear hb
          cases r
          · have H5 := Lib.hid (show ¬ ∃ m ∈ l, ¬ Ends (onceS l true) m.frm from fun h => by have := hr.2 h; cases this)
            have HE := Lib.hid (show ∀ m ∈ l, Ends (onceS l true) m.frm from fun m hm => Classical.byContradiction fun h => H5.out ⟨m, hm, h⟩)
            clear hr
            go_wp2_with fail
            refine (long_any D bm l true w6 HD6.out HE.out).mono ?_
            rintro e w7 ⟨r, rfl, hr, hb⟩
            have HB7 := Lib.hid (bthen HB6.out hb)
            have HBw7 := Lib.hid (bthen HBw6.out hb)
            clear hb
            cases r
            · have H6 := Lib.hid (show ¬ ∃ m ∈ l, 64 < sz (onceS l true) m.frm from fun h => by have := hr.2 h; cases this)
              clear hr
              have b7 := bcel HB7.out HC.out.2.1
              go_wp2_with fail
              refine (load_any A2 n2 c2 l false w7 (HM.out.below HB7.out) HDf.out).mono ?_
              rintro e w8 ⟨D2, bm2, bf2, rfl, hD, _, _, _, _, _, _, _, _, hb⟩
              have HD8 := Lib.hid hD
              have HBw8 := Lib.hid (bthen HBw7.out hb)
              clear hb hD b7
              go_wp2_with fail
              refine (long_any D2 bm2 l false w8 HD8.out (fun m hm => ends_plain (HE.out m hm))).mono ?_
              rintro e w9 ⟨r, rfl, hr, hb⟩
              have HBw9 := Lib.hid (bthen HBw8.out hb)
              clear hb
              cases r
              · have HN := Lib.hid (show normE sp l ex = 0 by rw [normE, if_neg (fun h => h H1.out), if_neg (fun h => h H2.out), if_neg (fun h => h H3.out), if_neg (fun h => h H4.out), if_neg H5.out, if_neg (fun h => h.elim H6.out (fun h => by have := hr.2 h; cases this))])
                clear hr
                go_wp2_with fail
                go_ret
                exact ⟨ret_int HN.out.symm, HBw9.out⟩
              · have HN := Lib.hid (show normE sp l ex = 13 by rw [normE, if_neg (fun h => h H1.out), if_neg (fun h => h H2.out), if_neg (fun h => h H3.out), if_neg (fun h => h H4.out), if_neg H5.out, if_pos (.inr (hr.1 rfl))])
                clear hr
                go_wp2_with fail
                go_ret
                exact ⟨ret_int HN.out.symm, HBw9.out⟩
            · have HN := Lib.hid (show normE sp l ex = 13 by rw [normE, if_neg (fun h => h H1.out), if_neg (fun h => h H2.out), if_neg (fun h => h H3.out), if_neg (fun h => h H4.out), if_neg H5.out, if_pos (.inl (hr.1 rfl))])
              clear hr
              go_wp2_with fail
              go_ret
              exact ⟨ret_int HN.out.symm, HBw7.out⟩
          · have HN := Lib.hid (show normE sp l ex = 12 by rw [normE, if_neg (fun h => h H1.out), if_neg (fun h => h H2.out), if_neg (fun h => h H3.out), if_neg (fun h => h H4.out), if_pos (hr.1 rfl)])
            clear hr
            go_wp2_with fail
            go_ret
            exact ⟨ret_int HN.out.symm, HBw6.out⟩
        · have HN := Lib.hid (show normE sp l ex = kindsE sp l by rw [normE, if_neg (fun h => h H1.out), if_neg (fun h => h H2.out), if_neg (fun h => h H3.out), if_pos h4])
          have h4' := bne_iff_ne.2 h4
          clear h4
          go_wp2_with fail
          go_ret
          exact ⟨ret_int HN.out.symm, HBw4.out⟩
    · have HN := Lib.hid (show normE sp l ex = mapE l by rw [normE, if_neg (fun h => h H1.out), if_pos h2])
      have h2' := bne_iff_ne.2 h2
      clear h2
      go_wp2_with fail
      go_ret
      exact ⟨ret_int HN.out.symm, HBw2.out⟩
  · have HN := Lib.hid (show normE sp l ex = chk sp by rw [normE, if_pos h1])
    have h1' := bne_iff_ne.2 h1
    clear h1
    go_wp2_with fail
    go_ret
    exact ⟨ret_int HN.out.symm, HBw1.out⟩
end Go.Proofs.YtfeofhinpgodoaaGreatDoor

