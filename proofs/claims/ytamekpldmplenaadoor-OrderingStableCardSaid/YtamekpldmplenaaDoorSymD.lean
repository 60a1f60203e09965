import Derived.Test.YtamekpldmplenaaDoorSymC
import Derived.Deep.DeepCutAuto
namespace Go.Proofs.YtamekpldmplenaaDoor
open Go.RowKit Go.Shelf

/-- The statement of the merge, for pieces of together fewer than d elements. -/
def SymUpto (q off len cap Bc : Nat) (key : Int → Int) (cin : World → Prop) (d : Nat) : Prop :=
  ∀ (xs P X Y S : List Int) (va vm vb : Int) (w : World), X.length + Y.length < d → cin w → Holds w q off xs → xs.length = len → xs = P ++ X ++ Y ++ S → Srt key X → Srt key Y → 0 < X.length → 0 < Y.length →
    va = P.length → vm = P.length + X.length → vb = P.length + X.length + Y.length →
    Calls Tryd.prog 56 #[.slice (some ⟨q, off, none⟩) len cap, .int .i64 va, .int .i64 vm, .int .i64 vb, .func (.func 41) #[] #[.pointer (some ⟨Bc, 0, none⟩)]] w (SymPost key cin q off len P (X ++ Y) S w)

theorem split4 (P X Y S : List Int) (u v : Nat) : P ++ X ++ Y ++ S = (P ++ X.take u) ++ X.drop u ++ Y.take v ++ (Y.drop v ++ S) := by
  have h1 := List.take_append_drop u X
  have h2 := List.take_append_drop v Y
  conv => lhs; rw [← h1, ← h2]
  simp only [List.append_assoc]
theorem swap_nil {xs P X1 X2 Y1 R : List Int} (h : xs = (P ++ X1) ++ X2 ++ Y1 ++ R) (h0 : X2.length = 0 ∨ Y1.length = 0) : xs = P ++ X1 ++ Y1 ++ X2 ++ R := by
  rcases h0 with h0 | h0
  · obtain rfl := List.eq_nil_of_length_eq_zero h0; simpa using h
  · obtain rfl := List.eq_nil_of_length_eq_zero h0; simpa using h
theorem srt_nil {key : Int → Int} {A B : List Int} (hA : Srt key A) (hB : Srt key B) (h0 : A.length = 0 ∨ B.length = 0) : Srt key (A ++ B) := by
  rcases h0 with h0 | h0
  · obtain rfl := List.eq_nil_of_length_eq_zero h0; simpa using hB
  · obtain rfl := List.eq_nil_of_length_eq_zero h0; simpa using hA
/-- What the search has found: the lower half of the one is not above the upper half of the other. -/
theorem sym_AB {key : Int → Int} {xs P X Y S : List Int} {na nm nb mid pn s0 r0 st en : Nat} (hx : xs = P ++ X ++ Y ++ S) (h1 : na = P.length) (h2 : nm = P.length + X.length) (h3 : nb = P.length + X.length + Y.length) (h4 : pn + 1 = mid + nm)
    (hX : Srt key X) (hY : Srt key Y) (hs : (s0 = na ∨ pn + 1 = nb + s0) ∧ (r0 = nm ∨ nm + r0 = pn + 1)) (k1 : s0 ≤ st) (k2 : st ≤ r0) (k3 : na ≤ s0) (k4 : r0 ≤ nm) (k5 : en + st = mid + nm) (k6 : nm ≤ en) (k7 : en ≤ nb)
    (d1 : s0 < st → ∀ x y, xs[st - 1]? = some x → xs[pn - (st - 1)]? = some y → key x ≤ key y) (d2 : st < r0 → ∀ x y, xs[st]? = some x → xs[pn - st]? = some y → key y < key x) :
    (∀ x ∈ X.take (st - na), ∀ y ∈ Y.drop (en - nm), key x ≤ key y) ∧ (∀ y ∈ Y.take (en - nm), ∀ x ∈ X.drop (st - na), key y < key x) := by
  have gX : ∀ i, i < X.length → ∃ x, X[i]? = some x ∧ xs[na + i]? = some x := fun i hi => ⟨X[i], List.getElem?_eq_getElem hi, by
    rw [hx, h1, show P ++ X ++ Y ++ S = P ++ X ++ (Y ++ S) by simp]; exact at_mid (List.getElem?_eq_getElem hi)⟩
  have gY : ∀ i, i < Y.length → ∃ x, Y[i]? = some x ∧ xs[nm + i]? = some x := fun i hi => ⟨Y[i], List.getElem?_eq_getElem hi, by
    have := at_mid (P := P ++ X) (S := S) (List.getElem?_eq_getElem hi : Y[i]? = some Y[i])
    rw [hx, h2]; simpa using this⟩
  constructor
  · intro x hx' y hy'
    obtain ⟨i, hi, ei⟩ := mem_take_iff hx'
    obtain ⟨j, hj, ej⟩ := mem_drop_iff hy'
    have hjl := (List.getElem?_eq_some_iff.1 ej).1
    have hlt : s0 < st := by omega
    obtain ⟨x0, e1, e2⟩ := gX (st - 1 - na) (by omega)
    obtain ⟨y0, e3, e4⟩ := gY (en - nm) (by omega)
    rw [show na + (st - 1 - na) = st - 1 by omega] at e2
    rw [show nm + (en - nm) = pn - (st - 1) by omega] at e4
    have := d1 hlt x0 y0 e2 e4
    have := hX.get_le (show i ≤ st - 1 - na by omega) ei e1
    have := hY.get_le hj e3 ej
    omega
  · intro y hy' x hx'
    obtain ⟨i, hi, ei⟩ := mem_take_iff hy'
    obtain ⟨j, hj, ej⟩ := mem_drop_iff hx'
    have hil := (List.getElem?_eq_some_iff.1 ei).1
    have hjl := (List.getElem?_eq_some_iff.1 ej).1
    have hlt : st < r0 := by omega
    obtain ⟨x0, e1, e2⟩ := gX (st - na) (by omega)
    obtain ⟨y0, e3, e4⟩ := gY (en - 1 - nm) (by omega)
    rw [show na + (st - na) = st by omega] at e2
    rw [show nm + (en - 1 - nm) = pn - st by omega] at e4
    have := d2 hlt x0 y0 e2 e4
    have := hX.get_le hj e1 ej
    have := hY.get_le (show i ≤ en - 1 - nm by omega) ei e3
    omega

set_option maxRecDepth 100000 in
set_option maxHeartbeats 4000000 in
theorem sym_more (q off len cap Bc : Nat) (key : Int → Int) (cin : World → Prop) (hc : CmpOk q Bc key cin) (d : Nat) (ih : SymUpto q off len cap Bc key cin d) (xs P X Y S : List Int) (va vm vb : Int) (w : World) (hd : X.length + Y.length ≤ d) (hcin : cin w) (hH : Holds w q off xs) (hl : xs.length = len) (hbd : len < 17592186044417) (hx : xs = P ++ X ++ Y ++ S)
    (hX : Srt key X) (hY : Srt key Y) (hX1 : 1 < X.length) (hY1 : 1 < Y.length) (ha : va = P.length) (hm : vm = P.length + X.length) (hb : vb = P.length + X.length + Y.length) :
    Calls Tryd.prog 56 #[.slice (some ⟨q, off, none⟩) len cap, .int .i64 va, .int .i64 vm, .int .i64 vb, .func (.func 41) #[] #[.pointer (some ⟨Bc, 0, none⟩)]] w (SymPost key cin q off len P (X ++ Y) S w) := by
  obtain ⟨na, hna⟩ : ∃ n : Nat, n = P.length := ⟨_, rfl⟩
  obtain ⟨nm, hnm⟩ : ∃ n : Nat, n = P.length + X.length := ⟨_, rfl⟩
  obtain ⟨nb, hnb⟩ : ∃ n : Nat, n = P.length + X.length + Y.length := ⟨_, rfl⟩
  obtain ⟨mid, hmid⟩ : ∃ n : Nat, n = (na + nb) / 2 := ⟨_, rfl⟩
  obtain ⟨pn, hpn⟩ : ∃ n : Nat, n = mid + nm - 1 := ⟨_, rfl⟩
  obtain rfl : va = na := by omega
  obtain rfl : vm = nm := by omega
  obtain rfl : vb = nb := by omega
  have hlen : P.length + X.length + Y.length + S.length = len := by rw [← hl, hx]; simp; omega
  have hnbl : nb ≤ len := by omega
  have hab : na + 2 ≤ nm := by omega
  have hab2 : nm + 2 ≤ nb := by omega
  have hm1 : na < mid := by omega
  have hm2 : mid < nb := by omega
  have hqs : q < w.heap.size := hH.lt (i := 0) (by omega)
  have HN := Lib.hid (show na = P.length ∧ nm = P.length + X.length ∧ nb = P.length + X.length + Y.length ∧ mid = (na + nb) / 2 ∧ pn + 1 = mid + nm ∧ P.length + X.length + Y.length + S.length = len from ⟨hna, hnm, hnb, hmid, by omega, hlen⟩)
  have Hmid := Lib.hid (show ((na : Int) + (nb : Int)) / 2 = (mid : Int) by omega)
  have Hpn := Lib.hid (show ((mid : Int) + (nm : Int) - 1) = (pn : Int) by omega)
  -- where the search begins and ends
  obtain ⟨s0, r0, hsr⟩ : ∃ s0 r0 : Nat, (mid < nm ∧ (mid : Int) + (nm : Int) - (nb : Int) = (s0 : Int) ∧ r0 = mid) ∨ (nm ≤ mid ∧ s0 = na ∧ r0 = nm) := by
    rcases Nat.lt_or_ge mid nm with h | h
    · exact ⟨mid + nm - nb, mid, .inl ⟨h, by omega, rfl⟩⟩
    · exact ⟨na, nm, .inr ⟨h, rfl, rfl⟩⟩
  have hs1 : na ≤ s0 := by omega
  have hs2 : s0 ≤ r0 := by omega
  have hs3 : r0 ≤ nm := by omega
  have hs4 : pn + 1 ≤ nb + s0 := by omega
  have hs5 : nm + r0 ≤ pn + 1 := by omega
  have HSR := Lib.hid (show (s0 = na ∨ pn + 1 = nb + s0) ∧ (r0 = nm ∨ nm + r0 = pn + 1) by omega)
  have HX := Lib.hid hx; have HC := Lib.hid hc; have HSX := Lib.hid hX; have HSY := Lib.hid hY; have HI := Lib.hid hcin; have HQ := Lib.hid hqs; have HL := Lib.hid hl; have H0 := Lib.hid hH; have IH := Lib.hid ih; have HD := Lib.hid hd
  have b1 : ((nm : Int) - (na : Int) == 1) = false := by rw [beq_eq_false_iff_ne]; omega
  have b2 : ((nb : Int) - (nm : Int) == 1) = false := by rw [beq_eq_false_iff_ne]; omega
  clear hH hx hc hX hY hcin hna hnm hnb hlen hqs hl ha hm hb hX1 hY1 ih hd hmid hpn
  go_enter Tryd.func56, Tryd.ntmps56
  rcases hsr with ⟨h1, h2, h3⟩ | ⟨h1, h2, h3⟩
  · have hgt : ((na : Int) + (nb : Int)) / 2 < (nm : Int) := by have := Hmid.out; omega
    have E2 := Lib.hid h2
    have E3 := Lib.hid h3
    clear h2 h3
    go_wp2_with fail
    rw [Hmid.out, E2.out, Hpn.out]
    clear hgt h1
    go_loopw [20, 21] (fun s1 s2 wr => ∃ st r : Nat, s1 = .int .i64 st ∧ s2 = .int .i64 r ∧ s0 ≤ st ∧ st ≤ r ∧ r ≤ r0 ∧
        Hid ((s0 < st → ∀ x y, xs[st - 1]? = some x → xs[pn - (st - 1)]? = some y → key x ≤ key y) ∧ (r < r0 → ∀ x y, xs[r]? = some x → xs[pn - r]? = some y → key y < key x) ∧ Holds wr q off xs ∧ Mut q off (off + len) w wr ∧ cin wr))
      (fun s1 s2 _ => (intOf s2 - intOf s1).toNat)
    case atStart => exact ⟨s0, mid, rfl, rfl, by omega, by have := E3.out; omega, by have := E3.out; omega, ⟨fun h => absurd h (by omega), fun h => absurd h (by have := E3.out; omega), H0.out, Mut.refl _ _ _ _, HI.out⟩⟩
    case round =>
      obtain ⟨st, r, rfl, rfl, hs0, hsr, hr0, HR⟩ := hrel
      by_cases hlt : st < r
      · obtain ⟨h, hh⟩ : ∃ t, t = (st + r) / 2 := ⟨_, rfl⟩
        have Hm := Lib.hid (show ((st : Int) + (r : Int)) / 2 = (h : Int) by omega)
        have h1 : st ≤ h := by omega
        have h2 : h < r := by omega
        clear hh
        obtain ⟨pc, hpc⟩ : ∃ p, p = pn - h := ⟨_, rfl⟩
        have hx : ∃ x, Hid (xs[h]? = some x) := ⟨_, List.getElem?_eq_getElem (show h < xs.length by have := HL.out; omega)⟩
        obtain ⟨x, hx⟩ := hx
        have hy : ∃ y, Hid (xs[pc]? = some y) := ⟨_, List.getElem?_eq_getElem (show pc < xs.length by have := HL.out; omega)⟩
        obtain ⟨y, hy⟩ := hy
        have cx := cellsOf HR.out.2.2.1 hx.out
        have cy := cellsOf HR.out.2.2.1 hy.out
        have gpc : IntKind.i64.wrap ((pn : Int) - (h : Int)) = (pc : Int) := by rw [show ((pn : Int) - (h : Int)) = (pc : Int) by omega]; exact IntWalk.i64_in _ (by omega)
        have HPC := Lib.hid hpc
        have gy : (pc : Int) < (len : Int) := by omega
        have gz : (h : Int) < (len : Int) := by omega
        have HKc := Lib.hid (HC.out.below _ _ HR.out.2.2.2.2 (Below.drew (Below.refl _ _)))
        clear hpc
        go_wp2_with fail
        rw [Hm.out]
        go_still_tail 11, (by kernel_rfl)
        change wpList _ _ _ _ _ wr.drew
        generalize hw2 : wr.drew = w2
        have HW2 := Lib.hid hw2; clear hw2
        have hqs := World.block_lt_of_cell? wr _ cx
        clear cx cy gpc
        by_cases hk : key y < key x
        · go_wp2_with (go_at_call 41; refine (HC.out.lt _ _ _ (by rw [← HW2.out]; exact HKc.out) hk).mono ?_; rintro e w1 ⟨rfl, hb⟩)
          have HB1 : Hid (Below wr.heap.size wr w1) := by
            have := hb
            rw [← HW2.out] at this
            exact bthen (Below.drew (Below.refl _ _)) this
          go_roundw
          case rel =>
            obtain ⟨d1, d2, d3, d4, d5⟩ := HR.out
            refine ⟨st, h, rfl, rfl, hs0, by omega, by omega, ⟨d1, fun _ x' y' hx' hy' => ?_, d3.below HB1.out hqs, d4.trans (Mut.of_below HB1.out hqs), HC.out.below _ _ d5 HB1.out⟩⟩
            rw [hx.out] at hx'; rw [← HPC.out, hy.out] at hy'; cases hx'; cases hy'; exact hk
          case measure => simp [intOf] <;> omega
        · go_wp2_with (go_at_call 41; refine (HC.out.ge _ _ _ (by rw [← HW2.out]; exact HKc.out) (by omega)).mono ?_; rintro e w1 ⟨rr, hr, rfl, hb⟩)
          have HB1 : Hid (Below wr.heap.size wr w1) := by
            have := hb
            rw [← HW2.out] at this
            exact bthen (Below.drew (Below.refl _ _)) this
          go_roundw
          case rel =>
            obtain ⟨d1, d2, d3, d4, d5⟩ := HR.out
            refine ⟨h + 1, r, by go_num, rfl, by omega, by omega, hr0, ⟨fun _ x' y' hx' hy' => ?_, d2, d3.below HB1.out hqs, d4.trans (Mut.of_below HB1.out hqs), HC.out.below _ _ d5 HB1.out⟩⟩
            rw [Nat.add_sub_cancel] at hx' hy'
            rw [hx.out] at hx'; rw [← HPC.out, hy.out] at hy'; cases hx'; cases hy'; omega
          case measure => simp [intOf] <;> omega
      · have e : st = r := by omega
        subst e
        obtain ⟨en, hen⟩ : ∃ n : Nat, n = pn + 1 - st := ⟨_, rfl⟩
        have hE := HN.out
        have n1 : na ≤ st := by omega
        have n2 : st ≤ nm := by omega
        have n3 : nm ≤ en := by omega
        have n4 : en ≤ nb := by omega
        have n5 : en + st = mid + nm := by omega
        clear hE hen
        have hab0 := sym_AB HX.out HN.out.1 HN.out.2.1 HN.out.2.2.1 HN.out.2.2.2.2.1 HSX.out HSY.out HSR.out hs0 hr0 hs1 hs3 n5 n3 n4 HR.out.1 HR.out.2.1
        have HS0 := Lib.hid HR.out.2.2
        have hp : xs = (P ++ X.take (st - na)) ++ X.drop (st - na) ++ Y.take (en - nm) ++ (Y.drop (en - nm) ++ S) := by
          rw [HX.out]; exact split4 P X Y S _ _
        obtain ⟨X1, hX1⟩ : ∃ l, l = X.take (st - na) := ⟨_, rfl⟩
        obtain ⟨X2, hX2⟩ : ∃ l, l = X.drop (st - na) := ⟨_, rfl⟩
        obtain ⟨Y1, hY1⟩ : ∃ l, l = Y.take (en - nm) := ⟨_, rfl⟩
        obtain ⟨Y2, hY2⟩ : ∃ l, l = Y.drop (en - nm) := ⟨_, rfl⟩
        have HXY := Lib.hid (show X1 ++ X2 = X ∧ Y1 ++ Y2 = Y from ⟨by rw [hX1, hX2, List.take_append_drop], by rw [hY1, hY2, List.take_append_drop]⟩)
        rw [← hX1, ← hX2, ← hY1, ← hY2] at hp hab0
        have HA := Lib.hid hab0.1
        have HB := Lib.hid hab0.2
        have HT := Lib.hid (show Srt key X1 ∧ Srt key Y1 ∧ Srt key X2 ∧ Srt key Y2 from ⟨hX1 ▸ HSX.out.take _, hY1 ▸ HSY.out.take _, hX2 ▸ HSX.out.drop _, hY2 ▸ HSY.out.drop _⟩)
        have HT2 := Lib.hid (show Srt key (X1 ++ X2) ∧ Srt key (Y1 ++ Y2) by rw [HXY.out.1, HXY.out.2]; exact ⟨HSX.out, HSY.out⟩)
        have HP := Lib.hid (show xs = (P ++ X1) ++ X2 ++ Y1 ++ (Y2 ++ S) ∧ na = P.length ∧ st = na + X1.length ∧ nm = st + X2.length ∧ en = nm + Y1.length ∧ nb = en + Y2.length ∧ nb + S.length = len ∧ X1.length + X2.length = X.length ∧ Y1.length + Y2.length = Y.length by
          have hE := HN.out
          refine ⟨hp, hE.1, ?_, ?_, ?_, ?_, ?_, ?_, ?_⟩
          · rw [hX1, List.length_take]; omega
          · rw [hX2, List.length_drop]; omega
          · rw [hY1, List.length_take]; omega
          · rw [hY2, List.length_drop]; omega
          · omega
          · rw [hX1, hX2, List.length_take, List.length_drop]; omega
          · rw [hY1, hY2, List.length_take, List.length_drop]; omega)
        clear hp hX1 hX2 hY1 hY2 hab0 HR
        have hp3 := HP.out.2.2
        rcases Nat.lt_or_ge st nm with c1 | c1
        · rcases Nat.lt_or_ge nm en with c2 | c2
          · rcases Nat.lt_or_ge na st with c3 | c3
            · rcases Nat.lt_or_ge en nb with c4 | c4
              · have t1 : (st : Int) < (nm : Int) := by omega
                have t2 : (nm : Int) < (mid : Int) + (nm : Int) - (st : Int) := by omega
                have t3 : (na : Int) < (st : Int) := by omega
                have t4 : (st : Int) < (mid : Int) := by omega
                have t5 : (mid : Int) < (mid : Int) + (nm : Int) - (st : Int) := by omega
                have t6 : (mid : Int) + (nm : Int) - (st : Int) < (nb : Int) := by omega
                go_wp2_with fail
                refine (rotate_any q off len cap _ xs (P ++ X1) X2 Y1 (Y2 ++ S) _ _ _ _ HS0.out.1 HL.out hbd HP.out.1 (by have := HP.out.2; omega) (by have := HP.out.2; omega) (by have := HP.out.2; simp; omega) (by have := HP.out.2; simp; omega) (by have := HP.out.2; simp; omega)).mono ?_
                rintro e w1 ⟨rfl, hh, hm⟩
                have HS1 := Lib.hid (show Holds w1 q off (P ++ X1 ++ Y1 ++ X2 ++ (Y2 ++ S)) ∧ Mut q off (off + len) w w1 ∧ cin w1 from ⟨hh.out, HS0.out.2.1.trans hm.out, HC.out.over _ _ _ _ HS0.out.2.2 hm.out⟩)
                go_wp2_with fail
                refine (IH.out _ P X1 Y1 (X2 ++ (Y2 ++ S)) _ _ _ _ (by have := HP.out.2; have := HD.out; omega) HS1.out.2.2 HS1.out.1 (by have := HP.out.2; simp; omega) (by simp) HT.out.1 HT.out.2.1 (by have := HP.out.2; omega) (by have := HP.out.2; omega) (by have := HP.out.2; omega) (by have := HP.out.2; omega) (by have := HP.out.2; omega)).mono ?_
                rintro e w2 ⟨Z1, ⟨f1, s1, hh2, hm2, hc2⟩, rfl⟩
                have HS2 := Lib.hid (show Fil key (X1 ++ Y1) Z1 ∧ Srt key Z1 ∧ Holds w2 q off (P ++ Z1 ++ (X2 ++ (Y2 ++ S))) ∧ Mut q off (off + len) w w2 ∧ cin w2 from ⟨f1, s1, hh2, HS1.out.2.1.trans hm2, hc2⟩)
                clear f1 s1 hh2 hm2 hc2
                go_wp2_with fail
                refine (IH.out _ (P ++ Z1) X2 Y2 S _ _ _ _ (by have := HP.out.2; have := HD.out; omega) HS2.out.2.2.2.2 HS2.out.2.2.1 (by have := HP.out.2; have := HS2.out.1.length; simp at this ⊢; omega) (by simp) HT.out.2.2.1 HT.out.2.2.2 (by have := HP.out.2; omega) (by have := HP.out.2; omega) (by have := HP.out.2; have := HS2.out.1.length; simp at this ⊢; omega) (by have := HP.out.2; have := HS2.out.1.length; simp at this ⊢; omega) (by have := HP.out.2; have := HS2.out.1.length; simp at this ⊢; omega)).mono ?_
                rintro e w3 ⟨Z2, ⟨f2, s2, hh3, hm3, hc3⟩, rfl⟩
                have HS3 := Lib.hid (And.intro f2 (And.intro s2 (And.intro hh3 (And.intro hm3 hc3))))
                clear f2 s2 hh3 hm3 hc3
                go_wp2_with fail
                go_end0
                refine ⟨Z1 ++ Z2, ⟨?_, ?_, ?_, HS2.out.2.2.2.1.trans HS3.out.2.2.2.1, HS3.out.2.2.2.2⟩, rfl⟩
                · have := (merge_step HT2.out.1 HT2.out.2 HA.out HB.out HS2.out.1 HS2.out.2.1 HS3.out.1 HS3.out.2.1).1
                  rwa [HXY.out.1, HXY.out.2] at this
                · exact (merge_step HT2.out.1 HT2.out.2 HA.out HB.out HS2.out.1 HS2.out.2.1 HS3.out.1 HS3.out.2.1).2
                · have := HS3.out.2.2.1
                  simpa using this
              · have t1 : (st : Int) < (nm : Int) := by omega
                have t2 : (nm : Int) < (mid : Int) + (nm : Int) - (st : Int) := by omega
                have t3 : (na : Int) < (st : Int) := by omega
                have t4 : (st : Int) < (mid : Int) := by omega
                have t5 : (mid : Int) < (mid : Int) + (nm : Int) - (st : Int) := by omega
                have t6 : ¬ (mid : Int) + (nm : Int) - (st : Int) < (nb : Int) := by omega
                go_wp2_with fail
                refine (rotate_any q off len cap _ xs (P ++ X1) X2 Y1 (Y2 ++ S) _ _ _ _ HS0.out.1 HL.out hbd HP.out.1 (by have := HP.out.2; omega) (by have := HP.out.2; omega) (by have := HP.out.2; simp; omega) (by have := HP.out.2; simp; omega) (by have := HP.out.2; simp; omega)).mono ?_
                rintro e w1 ⟨rfl, hh, hm⟩
                have HS1 := Lib.hid (show Holds w1 q off (P ++ X1 ++ Y1 ++ X2 ++ (Y2 ++ S)) ∧ Mut q off (off + len) w w1 ∧ cin w1 from ⟨hh.out, HS0.out.2.1.trans hm.out, HC.out.over _ _ _ _ HS0.out.2.2 hm.out⟩)
                go_wp2_with fail
                refine (IH.out _ P X1 Y1 (X2 ++ (Y2 ++ S)) _ _ _ _ (by have := HP.out.2; have := HD.out; omega) HS1.out.2.2 HS1.out.1 (by have := HP.out.2; simp; omega) (by simp) HT.out.1 HT.out.2.1 (by have := HP.out.2; omega) (by have := HP.out.2; omega) (by have := HP.out.2; omega) (by have := HP.out.2; omega) (by have := HP.out.2; omega)).mono ?_
                rintro e w2 ⟨Z1, ⟨f1, s1, hh2, hm2, hc2⟩, rfl⟩
                have HS2 := Lib.hid (show Fil key (X1 ++ Y1) Z1 ∧ Srt key Z1 ∧ Holds w2 q off (P ++ Z1 ++ (X2 ++ (Y2 ++ S))) ∧ Mut q off (off + len) w w2 ∧ cin w2 from ⟨f1, s1, hh2, HS1.out.2.1.trans hm2, hc2⟩)
                clear f1 s1 hh2 hm2 hc2
                go_wp2_with fail
                go_end0
                have s2 : Srt key (X2 ++ Y2) := srt_nil HT.out.2.2.1 HT.out.2.2.2 (by have := HP.out.2; omega)
                refine ⟨Z1 ++ (X2 ++ Y2), ⟨?_, ?_, ?_, HS2.out.2.2.2.1, HS2.out.2.2.2.2⟩, rfl⟩
                · have := (merge_step HT2.out.1 HT2.out.2 HA.out HB.out HS2.out.1 HS2.out.2.1 (Fil.refl (key := key) (X2 ++ Y2)) s2).1
                  rwa [HXY.out.1, HXY.out.2] at this
                · exact (merge_step HT2.out.1 HT2.out.2 HA.out HB.out HS2.out.1 HS2.out.2.1 (Fil.refl (key := key) (X2 ++ Y2)) s2).2
                · have := HS2.out.2.2.1
                  simpa using this
            · rcases Nat.lt_or_ge en nb with c4 | c4
              · have t1 : (st : Int) < (nm : Int) := by omega
                have t2 : (nm : Int) < (mid : Int) + (nm : Int) - (st : Int) := by omega
                have t3 : ¬ (na : Int) < (st : Int) := by omega
                have t5 : (mid : Int) < (mid : Int) + (nm : Int) - (st : Int) := by omega
                have t6 : (mid : Int) + (nm : Int) - (st : Int) < (nb : Int) := by omega
                go_wp2_with fail
                refine (rotate_any q off len cap _ xs (P ++ X1) X2 Y1 (Y2 ++ S) _ _ _ _ HS0.out.1 HL.out hbd HP.out.1 (by have := HP.out.2; omega) (by have := HP.out.2; omega) (by have := HP.out.2; simp; omega) (by have := HP.out.2; simp; omega) (by have := HP.out.2; simp; omega)).mono ?_
                rintro e w1 ⟨rfl, hh, hm⟩
                have HS1 := Lib.hid (show Holds w1 q off (P ++ X1 ++ Y1 ++ X2 ++ (Y2 ++ S)) ∧ Mut q off (off + len) w w1 ∧ cin w1 from ⟨hh.out, HS0.out.2.1.trans hm.out, HC.out.over _ _ _ _ HS0.out.2.2 hm.out⟩)
                go_wp2_with fail
                have HS2 := Lib.hid (show Fil key (X1 ++ Y1) (X1 ++ Y1) ∧ Srt key (X1 ++ Y1) ∧ Holds w1 q off (P ++ (X1 ++ Y1) ++ (X2 ++ (Y2 ++ S))) ∧ Mut q off (off + len) w w1 ∧ cin w1 from ⟨Fil.refl _, srt_nil HT.out.1 HT.out.2.1 (by have := HP.out.2; omega), by have := HS1.out.1; simpa using this, HS1.out.2⟩)
                refine (IH.out _ (P ++ (X1 ++ Y1)) X2 Y2 S _ _ _ _ (by have := HP.out.2; have := HD.out; omega) HS2.out.2.2.2.2 HS2.out.2.2.1 (by have := HP.out.2; have := HS2.out.1.length; simp at this ⊢; omega) (by simp) HT.out.2.2.1 HT.out.2.2.2 (by have := HP.out.2; omega) (by have := HP.out.2; omega) (by have := HP.out.2; have := HS2.out.1.length; simp at this ⊢; omega) (by have := HP.out.2; have := HS2.out.1.length; simp at this ⊢; omega) (by have := HP.out.2; have := HS2.out.1.length; simp at this ⊢; omega)).mono ?_
                rintro e w3 ⟨Z2, ⟨f2, s2, hh3, hm3, hc3⟩, rfl⟩
                have HS3 := Lib.hid (And.intro f2 (And.intro s2 (And.intro hh3 (And.intro hm3 hc3))))
                clear f2 s2 hh3 hm3 hc3
                go_wp2_with fail
                go_end0
                refine ⟨(X1 ++ Y1) ++ Z2, ⟨?_, ?_, ?_, HS2.out.2.2.2.1.trans HS3.out.2.2.2.1, HS3.out.2.2.2.2⟩, rfl⟩
                · have := (merge_step HT2.out.1 HT2.out.2 HA.out HB.out HS2.out.1 HS2.out.2.1 HS3.out.1 HS3.out.2.1).1
                  rwa [HXY.out.1, HXY.out.2] at this
                · exact (merge_step HT2.out.1 HT2.out.2 HA.out HB.out HS2.out.1 HS2.out.2.1 HS3.out.1 HS3.out.2.1).2
                · have := HS3.out.2.2.1
                  simpa using this
              · have t1 : (st : Int) < (nm : Int) := by omega
                have t2 : (nm : Int) < (mid : Int) + (nm : Int) - (st : Int) := by omega
                have t3 : ¬ (na : Int) < (st : Int) := by omega
                have t5 : (mid : Int) < (mid : Int) + (nm : Int) - (st : Int) := by omega
                have t6 : ¬ (mid : Int) + (nm : Int) - (st : Int) < (nb : Int) := by omega
                go_wp2_with fail
                refine (rotate_any q off len cap _ xs (P ++ X1) X2 Y1 (Y2 ++ S) _ _ _ _ HS0.out.1 HL.out hbd HP.out.1 (by have := HP.out.2; omega) (by have := HP.out.2; omega) (by have := HP.out.2; simp; omega) (by have := HP.out.2; simp; omega) (by have := HP.out.2; simp; omega)).mono ?_
                rintro e w1 ⟨rfl, hh, hm⟩
                have HS1 := Lib.hid (show Holds w1 q off (P ++ X1 ++ Y1 ++ X2 ++ (Y2 ++ S)) ∧ Mut q off (off + len) w w1 ∧ cin w1 from ⟨hh.out, HS0.out.2.1.trans hm.out, HC.out.over _ _ _ _ HS0.out.2.2 hm.out⟩)
                go_wp2_with fail
                have HS2 := Lib.hid (show Fil key (X1 ++ Y1) (X1 ++ Y1) ∧ Srt key (X1 ++ Y1) ∧ Holds w1 q off (P ++ (X1 ++ Y1) ++ (X2 ++ (Y2 ++ S))) ∧ Mut q off (off + len) w w1 ∧ cin w1 from ⟨Fil.refl _, srt_nil HT.out.1 HT.out.2.1 (by have := HP.out.2; omega), by have := HS1.out.1; simpa using this, HS1.out.2⟩)
                go_end0
                have s2 : Srt key (X2 ++ Y2) := srt_nil HT.out.2.2.1 HT.out.2.2.2 (by have := HP.out.2; omega)
                refine ⟨(X1 ++ Y1) ++ (X2 ++ Y2), ⟨?_, ?_, ?_, HS2.out.2.2.2.1, HS2.out.2.2.2.2⟩, rfl⟩
                · have := (merge_step HT2.out.1 HT2.out.2 HA.out HB.out HS2.out.1 HS2.out.2.1 (Fil.refl (key := key) (X2 ++ Y2)) s2).1
                  rwa [HXY.out.1, HXY.out.2] at this
                · exact (merge_step HT2.out.1 HT2.out.2 HA.out HB.out HS2.out.1 HS2.out.2.1 (Fil.refl (key := key) (X2 ++ Y2)) s2).2
                · have := HS2.out.2.2.1
                  simpa using this
          · rcases Nat.lt_or_ge en nb with c4 | c4
            · have t1 : (st : Int) < (nm : Int) := by omega
              have t2 : ¬ (nm : Int) < (mid : Int) + (nm : Int) - (st : Int) := by omega
              have t3 : (na : Int) < (st : Int) := by omega
              have t4 : ¬ (st : Int) < (mid : Int) := by omega
              have t5 : (mid : Int) < (mid : Int) + (nm : Int) - (st : Int) := by omega
              have t6 : (mid : Int) + (nm : Int) - (st : Int) < (nb : Int) := by omega
              go_wp2_with fail
              have HS1 := Lib.hid (show Holds wr q off (P ++ X1 ++ Y1 ++ X2 ++ (Y2 ++ S)) ∧ Mut q off (off + len) w wr ∧ cin wr from ⟨by rw [← swap_nil HP.out.1 (by have := HP.out.2; omega)]; exact HS0.out.1, HS0.out.2⟩)
              have HS2 := Lib.hid (show Fil key (X1 ++ Y1) (X1 ++ Y1) ∧ Srt key (X1 ++ Y1) ∧ Holds wr q off (P ++ (X1 ++ Y1) ++ (X2 ++ (Y2 ++ S))) ∧ Mut q off (off + len) w wr ∧ cin wr from ⟨Fil.refl _, srt_nil HT.out.1 HT.out.2.1 (by have := HP.out.2; omega), by have := HS1.out.1; simpa using this, HS1.out.2⟩)
              refine (IH.out _ (P ++ (X1 ++ Y1)) X2 Y2 S _ _ _ _ (by have := HP.out.2; have := HD.out; omega) HS2.out.2.2.2.2 HS2.out.2.2.1 (by have := HP.out.2; have := HS2.out.1.length; simp at this ⊢; omega) (by simp) HT.out.2.2.1 HT.out.2.2.2 (by have := HP.out.2; omega) (by have := HP.out.2; omega) (by have := HP.out.2; have := HS2.out.1.length; simp at this ⊢; omega) (by have := HP.out.2; have := HS2.out.1.length; simp at this ⊢; omega) (by have := HP.out.2; have := HS2.out.1.length; simp at this ⊢; omega)).mono ?_
              rintro e w3 ⟨Z2, ⟨f2, s2, hh3, hm3, hc3⟩, rfl⟩
              have HS3 := Lib.hid (And.intro f2 (And.intro s2 (And.intro hh3 (And.intro hm3 hc3))))
              clear f2 s2 hh3 hm3 hc3
              go_wp2_with fail
              go_end0
              refine ⟨(X1 ++ Y1) ++ Z2, ⟨?_, ?_, ?_, HS2.out.2.2.2.1.trans HS3.out.2.2.2.1, HS3.out.2.2.2.2⟩, rfl⟩
              · have := (merge_step HT2.out.1 HT2.out.2 HA.out HB.out HS2.out.1 HS2.out.2.1 HS3.out.1 HS3.out.2.1).1
                rwa [HXY.out.1, HXY.out.2] at this
              · exact (merge_step HT2.out.1 HT2.out.2 HA.out HB.out HS2.out.1 HS2.out.2.1 HS3.out.1 HS3.out.2.1).2
              · have := HS3.out.2.2.1
                simpa using this
            · exfalso; omega
        · rcases Nat.lt_or_ge st mid with c3 | c3
          · have t1 : ¬ (st : Int) < (nm : Int) := by omega
            have t3 : (na : Int) < (st : Int) := by omega
            have t4 : (st : Int) < (mid : Int) := by omega
            have t5 : ¬ (mid : Int) < (mid : Int) + (nm : Int) - (st : Int) := by omega
            go_wp2_with fail
            have HS1 := Lib.hid (show Holds wr q off (P ++ X1 ++ Y1 ++ X2 ++ (Y2 ++ S)) ∧ Mut q off (off + len) w wr ∧ cin wr from ⟨by rw [← swap_nil HP.out.1 (by have := HP.out.2; omega)]; exact HS0.out.1, HS0.out.2⟩)
            refine (IH.out _ P X1 Y1 (X2 ++ (Y2 ++ S)) _ _ _ _ (by have := HP.out.2; have := HD.out; omega) HS1.out.2.2 HS1.out.1 (by have := HP.out.2; simp; omega) (by simp) HT.out.1 HT.out.2.1 (by have := HP.out.2; omega) (by have := HP.out.2; omega) (by have := HP.out.2; omega) (by have := HP.out.2; omega) (by have := HP.out.2; omega)).mono ?_
            rintro e w2 ⟨Z1, ⟨f1, s1, hh2, hm2, hc2⟩, rfl⟩
            have HS2 := Lib.hid (show Fil key (X1 ++ Y1) Z1 ∧ Srt key Z1 ∧ Holds w2 q off (P ++ Z1 ++ (X2 ++ (Y2 ++ S))) ∧ Mut q off (off + len) w w2 ∧ cin w2 from ⟨f1, s1, hh2, HS1.out.2.1.trans hm2, hc2⟩)
            clear f1 s1 hh2 hm2 hc2
            go_wp2_with fail
            go_end0
            have s2 : Srt key (X2 ++ Y2) := srt_nil HT.out.2.2.1 HT.out.2.2.2 (by have := HP.out.2; omega)
            refine ⟨Z1 ++ (X2 ++ Y2), ⟨?_, ?_, ?_, HS2.out.2.2.2.1, HS2.out.2.2.2.2⟩, rfl⟩
            · have := (merge_step HT2.out.1 HT2.out.2 HA.out HB.out HS2.out.1 HS2.out.2.1 (Fil.refl (key := key) (X2 ++ Y2)) s2).1
              rwa [HXY.out.1, HXY.out.2] at this
            · exact (merge_step HT2.out.1 HT2.out.2 HA.out HB.out HS2.out.1 HS2.out.2.1 (Fil.refl (key := key) (X2 ++ Y2)) s2).2
            · have := HS2.out.2.2.1
              simpa using this
          · have t1 : ¬ (st : Int) < (nm : Int) := by omega
            have t3 : (na : Int) < (st : Int) := by omega
            have t4 : ¬ (st : Int) < (mid : Int) := by omega
            have t5 : ¬ (mid : Int) < (mid : Int) + (nm : Int) - (st : Int) := by omega
            go_wp2_with fail
            have HS1 := Lib.hid (show Holds wr q off (P ++ X1 ++ Y1 ++ X2 ++ (Y2 ++ S)) ∧ Mut q off (off + len) w wr ∧ cin wr from ⟨by rw [← swap_nil HP.out.1 (by have := HP.out.2; omega)]; exact HS0.out.1, HS0.out.2⟩)
            have HS2 := Lib.hid (show Fil key (X1 ++ Y1) (X1 ++ Y1) ∧ Srt key (X1 ++ Y1) ∧ Holds wr q off (P ++ (X1 ++ Y1) ++ (X2 ++ (Y2 ++ S))) ∧ Mut q off (off + len) w wr ∧ cin wr from ⟨Fil.refl _, srt_nil HT.out.1 HT.out.2.1 (by have := HP.out.2; omega), by have := HS1.out.1; simpa using this, HS1.out.2⟩)
            go_end0
            have s2 : Srt key (X2 ++ Y2) := srt_nil HT.out.2.2.1 HT.out.2.2.2 (by have := HP.out.2; omega)
            refine ⟨(X1 ++ Y1) ++ (X2 ++ Y2), ⟨?_, ?_, ?_, HS2.out.2.2.2.1, HS2.out.2.2.2.2⟩, rfl⟩
            · have := (merge_step HT2.out.1 HT2.out.2 HA.out HB.out HS2.out.1 HS2.out.2.1 (Fil.refl (key := key) (X2 ++ Y2)) s2).1
              rwa [HXY.out.1, HXY.out.2] at this
            · exact (merge_step HT2.out.1 HT2.out.2 HA.out HB.out HS2.out.1 HS2.out.2.1 (Fil.refl (key := key) (X2 ++ Y2)) s2).2
            · have := HS2.out.2.2.1
              simpa using this
  · have hgt : ¬ ((na : Int) + (nb : Int)) / 2 < (nm : Int) := by have := Hmid.out; omega
    have E2 := Lib.hid h2
    have E3 := Lib.hid h3
    clear h2 h3
    go_wp2_with fail
    rw [Hmid.out, Hpn.out]
    clear hgt h1
    go_loopw [20, 21] (fun s1 s2 wr => ∃ st r : Nat, s1 = .int .i64 st ∧ s2 = .int .i64 r ∧ s0 ≤ st ∧ st ≤ r ∧ r ≤ r0 ∧
        Hid ((s0 < st → ∀ x y, xs[st - 1]? = some x → xs[pn - (st - 1)]? = some y → key x ≤ key y) ∧ (r < r0 → ∀ x y, xs[r]? = some x → xs[pn - r]? = some y → key y < key x) ∧ Holds wr q off xs ∧ Mut q off (off + len) w wr ∧ cin wr))
      (fun s1 s2 _ => (intOf s2 - intOf s1).toNat)
    case atStart => exact ⟨na, nm, rfl, rfl, by have := E2.out; omega, by have := E2.out; omega, by have := E3.out; omega, ⟨fun h => absurd h (by have := E2.out; omega), fun h => absurd h (by have := E3.out; omega), H0.out, Mut.refl _ _ _ _, HI.out⟩⟩
    case round =>
      obtain ⟨st, r, rfl, rfl, hs0, hsr, hr0, HR⟩ := hrel
      by_cases hlt : st < r
      · obtain ⟨h, hh⟩ : ∃ t, t = (st + r) / 2 := ⟨_, rfl⟩
        have Hm := Lib.hid (show ((st : Int) + (r : Int)) / 2 = (h : Int) by omega)
        have h1 : st ≤ h := by omega
        have h2 : h < r := by omega
        clear hh
        obtain ⟨pc, hpc⟩ : ∃ p, p = pn - h := ⟨_, rfl⟩
        have hx : ∃ x, Hid (xs[h]? = some x) := ⟨_, List.getElem?_eq_getElem (show h < xs.length by have := HL.out; omega)⟩
        obtain ⟨x, hx⟩ := hx
        have hy : ∃ y, Hid (xs[pc]? = some y) := ⟨_, List.getElem?_eq_getElem (show pc < xs.length by have := HL.out; omega)⟩
        obtain ⟨y, hy⟩ := hy
        have cx := cellsOf HR.out.2.2.1 hx.out
        have cy := cellsOf HR.out.2.2.1 hy.out
        have gpc : IntKind.i64.wrap ((pn : Int) - (h : Int)) = (pc : Int) := by rw [show ((pn : Int) - (h : Int)) = (pc : Int) by omega]; exact IntWalk.i64_in _ (by omega)
        have HPC := Lib.hid hpc
        have gy : (pc : Int) < (len : Int) := by omega
        have gz : (h : Int) < (len : Int) := by omega
        have HKc := Lib.hid (HC.out.below _ _ HR.out.2.2.2.2 (Below.drew (Below.refl _ _)))
        clear hpc
        go_wp2_with fail
        rw [Hm.out]
        go_still_tail 11, (by kernel_rfl)
        change wpList _ _ _ _ _ wr.drew
        generalize hw2 : wr.drew = w2
        have HW2 := Lib.hid hw2; clear hw2
        have hqs := World.block_lt_of_cell? wr _ cx
        clear cx cy gpc
        by_cases hk : key y < key x
        · go_wp2_with (go_at_call 41; refine (HC.out.lt _ _ _ (by rw [← HW2.out]; exact HKc.out) hk).mono ?_; rintro e w1 ⟨rfl, hb⟩)
          have HB1 : Hid (Below wr.heap.size wr w1) := by
            have := hb
            rw [← HW2.out] at this
            exact bthen (Below.drew (Below.refl _ _)) this
          go_roundw
          case rel =>
            obtain ⟨d1, d2, d3, d4, d5⟩ := HR.out
            refine ⟨st, h, rfl, rfl, hs0, by omega, by omega, ⟨d1, fun _ x' y' hx' hy' => ?_, d3.below HB1.out hqs, d4.trans (Mut.of_below HB1.out hqs), HC.out.below _ _ d5 HB1.out⟩⟩
            rw [hx.out] at hx'; rw [← HPC.out, hy.out] at hy'; cases hx'; cases hy'; exact hk
          case measure => simp [intOf] <;> omega
        · go_wp2_with (go_at_call 41; refine (HC.out.ge _ _ _ (by rw [← HW2.out]; exact HKc.out) (by omega)).mono ?_; rintro e w1 ⟨rr, hr, rfl, hb⟩)
          have HB1 : Hid (Below wr.heap.size wr w1) := by
            have := hb
            rw [← HW2.out] at this
            exact bthen (Below.drew (Below.refl _ _)) this
          go_roundw
          case rel =>
            obtain ⟨d1, d2, d3, d4, d5⟩ := HR.out
            refine ⟨h + 1, r, by go_num, rfl, by omega, by omega, hr0, ⟨fun _ x' y' hx' hy' => ?_, d2, d3.below HB1.out hqs, d4.trans (Mut.of_below HB1.out hqs), HC.out.below _ _ d5 HB1.out⟩⟩
            rw [Nat.add_sub_cancel] at hx' hy'
            rw [hx.out] at hx'; rw [← HPC.out, hy.out] at hy'; cases hx'; cases hy'; omega
          case measure => simp [intOf] <;> omega
      · have e : st = r := by omega
        subst e
        obtain ⟨en, hen⟩ : ∃ n : Nat, n = pn + 1 - st := ⟨_, rfl⟩
        have hE := HN.out
        have n1 : na ≤ st := by omega
        have n2 : st ≤ nm := by omega
        have n3 : nm ≤ en := by omega
        have n4 : en ≤ nb := by omega
        have n5 : en + st = mid + nm := by omega
        clear hE hen
        have hab0 := sym_AB HX.out HN.out.1 HN.out.2.1 HN.out.2.2.1 HN.out.2.2.2.2.1 HSX.out HSY.out HSR.out hs0 hr0 hs1 hs3 n5 n3 n4 HR.out.1 HR.out.2.1
        have HS0 := Lib.hid HR.out.2.2
        have hp : xs = (P ++ X.take (st - na)) ++ X.drop (st - na) ++ Y.take (en - nm) ++ (Y.drop (en - nm) ++ S) := by
          rw [HX.out]; exact split4 P X Y S _ _
        obtain ⟨X1, hX1⟩ : ∃ l, l = X.take (st - na) := ⟨_, rfl⟩
        obtain ⟨X2, hX2⟩ : ∃ l, l = X.drop (st - na) := ⟨_, rfl⟩
        obtain ⟨Y1, hY1⟩ : ∃ l, l = Y.take (en - nm) := ⟨_, rfl⟩
        obtain ⟨Y2, hY2⟩ : ∃ l, l = Y.drop (en - nm) := ⟨_, rfl⟩
        have HXY := Lib.hid (show X1 ++ X2 = X ∧ Y1 ++ Y2 = Y from ⟨by rw [hX1, hX2, List.take_append_drop], by rw [hY1, hY2, List.take_append_drop]⟩)
        rw [← hX1, ← hX2, ← hY1, ← hY2] at hp hab0
        have HA := Lib.hid hab0.1
        have HB := Lib.hid hab0.2
        have HT := Lib.hid (show Srt key X1 ∧ Srt key Y1 ∧ Srt key X2 ∧ Srt key Y2 from ⟨hX1 ▸ HSX.out.take _, hY1 ▸ HSY.out.take _, hX2 ▸ HSX.out.drop _, hY2 ▸ HSY.out.drop _⟩)
        have HT2 := Lib.hid (show Srt key (X1 ++ X2) ∧ Srt key (Y1 ++ Y2) by rw [HXY.out.1, HXY.out.2]; exact ⟨HSX.out, HSY.out⟩)
        have HP := Lib.hid (show xs = (P ++ X1) ++ X2 ++ Y1 ++ (Y2 ++ S) ∧ na = P.length ∧ st = na + X1.length ∧ nm = st + X2.length ∧ en = nm + Y1.length ∧ nb = en + Y2.length ∧ nb + S.length = len ∧ X1.length + X2.length = X.length ∧ Y1.length + Y2.length = Y.length by
          have hE := HN.out
          refine ⟨hp, hE.1, ?_, ?_, ?_, ?_, ?_, ?_, ?_⟩
          · rw [hX1, List.length_take]; omega
          · rw [hX2, List.length_drop]; omega
          · rw [hY1, List.length_take]; omega
          · rw [hY2, List.length_drop]; omega
          · omega
          · rw [hX1, hX2, List.length_take, List.length_drop]; omega
          · rw [hY1, hY2, List.length_take, List.length_drop]; omega)
        clear hp hX1 hX2 hY1 hY2 hab0 HR
        have hp3 := HP.out.2.2
        rcases Nat.lt_or_ge st nm with c1 | c1
        · rcases Nat.lt_or_ge nm en with c2 | c2
          · rcases Nat.lt_or_ge na st with c3 | c3
            · rcases Nat.lt_or_ge en nb with c4 | c4
              · have t1 : (st : Int) < (nm : Int) := by omega
                have t2 : (nm : Int) < (mid : Int) + (nm : Int) - (st : Int) := by omega
                have t3 : (na : Int) < (st : Int) := by omega
                have t4 : (st : Int) < (mid : Int) := by omega
                have t5 : (mid : Int) < (mid : Int) + (nm : Int) - (st : Int) := by omega
                have t6 : (mid : Int) + (nm : Int) - (st : Int) < (nb : Int) := by omega
                go_wp2_with fail
                refine (rotate_any q off len cap _ xs (P ++ X1) X2 Y1 (Y2 ++ S) _ _ _ _ HS0.out.1 HL.out hbd HP.out.1 (by have := HP.out.2; omega) (by have := HP.out.2; omega) (by have := HP.out.2; simp; omega) (by have := HP.out.2; simp; omega) (by have := HP.out.2; simp; omega)).mono ?_
                rintro e w1 ⟨rfl, hh, hm⟩
                have HS1 := Lib.hid (show Holds w1 q off (P ++ X1 ++ Y1 ++ X2 ++ (Y2 ++ S)) ∧ Mut q off (off + len) w w1 ∧ cin w1 from ⟨hh.out, HS0.out.2.1.trans hm.out, HC.out.over _ _ _ _ HS0.out.2.2 hm.out⟩)
                go_wp2_with fail
                refine (IH.out _ P X1 Y1 (X2 ++ (Y2 ++ S)) _ _ _ _ (by have := HP.out.2; have := HD.out; omega) HS1.out.2.2 HS1.out.1 (by have := HP.out.2; simp; omega) (by simp) HT.out.1 HT.out.2.1 (by have := HP.out.2; omega) (by have := HP.out.2; omega) (by have := HP.out.2; omega) (by have := HP.out.2; omega) (by have := HP.out.2; omega)).mono ?_
                rintro e w2 ⟨Z1, ⟨f1, s1, hh2, hm2, hc2⟩, rfl⟩
                have HS2 := Lib.hid (show Fil key (X1 ++ Y1) Z1 ∧ Srt key Z1 ∧ Holds w2 q off (P ++ Z1 ++ (X2 ++ (Y2 ++ S))) ∧ Mut q off (off + len) w w2 ∧ cin w2 from ⟨f1, s1, hh2, HS1.out.2.1.trans hm2, hc2⟩)
                clear f1 s1 hh2 hm2 hc2
                go_wp2_with fail
                refine (IH.out _ (P ++ Z1) X2 Y2 S _ _ _ _ (by have := HP.out.2; have := HD.out; omega) HS2.out.2.2.2.2 HS2.out.2.2.1 (by have := HP.out.2; have := HS2.out.1.length; simp at this ⊢; omega) (by simp) HT.out.2.2.1 HT.out.2.2.2 (by have := HP.out.2; omega) (by have := HP.out.2; omega) (by have := HP.out.2; have := HS2.out.1.length; simp at this ⊢; omega) (by have := HP.out.2; have := HS2.out.1.length; simp at this ⊢; omega) (by have := HP.out.2; have := HS2.out.1.length; simp at this ⊢; omega)).mono ?_
                rintro e w3 ⟨Z2, ⟨f2, s2, hh3, hm3, hc3⟩, rfl⟩
                have HS3 := Lib.hid (And.intro f2 (And.intro s2 (And.intro hh3 (And.intro hm3 hc3))))
                clear f2 s2 hh3 hm3 hc3
                go_wp2_with fail
                go_end0
                refine ⟨Z1 ++ Z2, ⟨?_, ?_, ?_, HS2.out.2.2.2.1.trans HS3.out.2.2.2.1, HS3.out.2.2.2.2⟩, rfl⟩
                · have := (merge_step HT2.out.1 HT2.out.2 HA.out HB.out HS2.out.1 HS2.out.2.1 HS3.out.1 HS3.out.2.1).1
                  rwa [HXY.out.1, HXY.out.2] at this
                · exact (merge_step HT2.out.1 HT2.out.2 HA.out HB.out HS2.out.1 HS2.out.2.1 HS3.out.1 HS3.out.2.1).2
                · have := HS3.out.2.2.1
                  simpa using this
              · have t1 : (st : Int) < (nm : Int) := by omega
                have t2 : (nm : Int) < (mid : Int) + (nm : Int) - (st : Int) := by omega
                have t3 : (na : Int) < (st : Int) := by omega
                have t4 : (st : Int) < (mid : Int) := by omega
                have t5 : (mid : Int) < (mid : Int) + (nm : Int) - (st : Int) := by omega
                have t6 : ¬ (mid : Int) + (nm : Int) - (st : Int) < (nb : Int) := by omega
                go_wp2_with fail
                refine (rotate_any q off len cap _ xs (P ++ X1) X2 Y1 (Y2 ++ S) _ _ _ _ HS0.out.1 HL.out hbd HP.out.1 (by have := HP.out.2; omega) (by have := HP.out.2; omega) (by have := HP.out.2; simp; omega) (by have := HP.out.2; simp; omega) (by have := HP.out.2; simp; omega)).mono ?_
                rintro e w1 ⟨rfl, hh, hm⟩
                have HS1 := Lib.hid (show Holds w1 q off (P ++ X1 ++ Y1 ++ X2 ++ (Y2 ++ S)) ∧ Mut q off (off + len) w w1 ∧ cin w1 from ⟨hh.out, HS0.out.2.1.trans hm.out, HC.out.over _ _ _ _ HS0.out.2.2 hm.out⟩)
                go_wp2_with fail
                refine (IH.out _ P X1 Y1 (X2 ++ (Y2 ++ S)) _ _ _ _ (by have := HP.out.2; have := HD.out; omega) HS1.out.2.2 HS1.out.1 (by have := HP.out.2; simp; omega) (by simp) HT.out.1 HT.out.2.1 (by have := HP.out.2; omega) (by have := HP.out.2; omega) (by have := HP.out.2; omega) (by have := HP.out.2; omega) (by have := HP.out.2; omega)).mono ?_
                rintro e w2 ⟨Z1, ⟨f1, s1, hh2, hm2, hc2⟩, rfl⟩
                have HS2 := Lib.hid (show Fil key (X1 ++ Y1) Z1 ∧ Srt key Z1 ∧ Holds w2 q off (P ++ Z1 ++ (X2 ++ (Y2 ++ S))) ∧ Mut q off (off + len) w w2 ∧ cin w2 from ⟨f1, s1, hh2, HS1.out.2.1.trans hm2, hc2⟩)
                clear f1 s1 hh2 hm2 hc2
                go_wp2_with fail
                go_end0
                have s2 : Srt key (X2 ++ Y2) := srt_nil HT.out.2.2.1 HT.out.2.2.2 (by have := HP.out.2; omega)
                refine ⟨Z1 ++ (X2 ++ Y2), ⟨?_, ?_, ?_, HS2.out.2.2.2.1, HS2.out.2.2.2.2⟩, rfl⟩
                · have := (merge_step HT2.out.1 HT2.out.2 HA.out HB.out HS2.out.1 HS2.out.2.1 (Fil.refl (key := key) (X2 ++ Y2)) s2).1
                  rwa [HXY.out.1, HXY.out.2] at this
                · exact (merge_step HT2.out.1 HT2.out.2 HA.out HB.out HS2.out.1 HS2.out.2.1 (Fil.refl (key := key) (X2 ++ Y2)) s2).2
                · have := HS2.out.2.2.1
                  simpa using this
            · rcases Nat.lt_or_ge en nb with c4 | c4
              · have t1 : (st : Int) < (nm : Int) := by omega
                have t2 : (nm : Int) < (mid : Int) + (nm : Int) - (st : Int) := by omega
                have t3 : ¬ (na : Int) < (st : Int) := by omega
                have t5 : (mid : Int) < (mid : Int) + (nm : Int) - (st : Int) := by omega
                have t6 : (mid : Int) + (nm : Int) - (st : Int) < (nb : Int) := by omega
                go_wp2_with fail
                refine (rotate_any q off len cap _ xs (P ++ X1) X2 Y1 (Y2 ++ S) _ _ _ _ HS0.out.1 HL.out hbd HP.out.1 (by have := HP.out.2; omega) (by have := HP.out.2; omega) (by have := HP.out.2; simp; omega) (by have := HP.out.2; simp; omega) (by have := HP.out.2; simp; omega)).mono ?_
                rintro e w1 ⟨rfl, hh, hm⟩
                have HS1 := Lib.hid (show Holds w1 q off (P ++ X1 ++ Y1 ++ X2 ++ (Y2 ++ S)) ∧ Mut q off (off + len) w w1 ∧ cin w1 from ⟨hh.out, HS0.out.2.1.trans hm.out, HC.out.over _ _ _ _ HS0.out.2.2 hm.out⟩)
                go_wp2_with fail
                have HS2 := Lib.hid (show Fil key (X1 ++ Y1) (X1 ++ Y1) ∧ Srt key (X1 ++ Y1) ∧ Holds w1 q off (P ++ (X1 ++ Y1) ++ (X2 ++ (Y2 ++ S))) ∧ Mut q off (off + len) w w1 ∧ cin w1 from ⟨Fil.refl _, srt_nil HT.out.1 HT.out.2.1 (by have := HP.out.2; omega), by have := HS1.out.1; simpa using this, HS1.out.2⟩)
                refine (IH.out _ (P ++ (X1 ++ Y1)) X2 Y2 S _ _ _ _ (by have := HP.out.2; have := HD.out; omega) HS2.out.2.2.2.2 HS2.out.2.2.1 (by have := HP.out.2; have := HS2.out.1.length; simp at this ⊢; omega) (by simp) HT.out.2.2.1 HT.out.2.2.2 (by have := HP.out.2; omega) (by have := HP.out.2; omega) (by have := HP.out.2; have := HS2.out.1.length; simp at this ⊢; omega) (by have := HP.out.2; have := HS2.out.1.length; simp at this ⊢; omega) (by have := HP.out.2; have := HS2.out.1.length; simp at this ⊢; omega)).mono ?_
                rintro e w3 ⟨Z2, ⟨f2, s2, hh3, hm3, hc3⟩, rfl⟩
                have HS3 := Lib.hid (And.intro f2 (And.intro s2 (And.intro hh3 (And.intro hm3 hc3))))
                clear f2 s2 hh3 hm3 hc3
                go_wp2_with fail
                go_end0
                refine ⟨(X1 ++ Y1) ++ Z2, ⟨?_, ?_, ?_, HS2.out.2.2.2.1.trans HS3.out.2.2.2.1, HS3.out.2.2.2.2⟩, rfl⟩
                · have := (merge_step HT2.out.1 HT2.out.2 HA.out HB.out HS2.out.1 HS2.out.2.1 HS3.out.1 HS3.out.2.1).1
                  rwa [HXY.out.1, HXY.out.2] at this
                · exact (merge_step HT2.out.1 HT2.out.2 HA.out HB.out HS2.out.1 HS2.out.2.1 HS3.out.1 HS3.out.2.1).2
                · have := HS3.out.2.2.1
                  simpa using this
              · have t1 : (st : Int) < (nm : Int) := by omega
                have t2 : (nm : Int) < (mid : Int) + (nm : Int) - (st : Int) := by omega
                have t3 : ¬ (na : Int) < (st : Int) := by omega
                have t5 : (mid : Int) < (mid : Int) + (nm : Int) - (st : Int) := by omega
                have t6 : ¬ (mid : Int) + (nm : Int) - (st : Int) < (nb : Int) := by omega
                go_wp2_with fail
                refine (rotate_any q off len cap _ xs (P ++ X1) X2 Y1 (Y2 ++ S) _ _ _ _ HS0.out.1 HL.out hbd HP.out.1 (by have := HP.out.2; omega) (by have := HP.out.2; omega) (by have := HP.out.2; simp; omega) (by have := HP.out.2; simp; omega) (by have := HP.out.2; simp; omega)).mono ?_
                rintro e w1 ⟨rfl, hh, hm⟩
                have HS1 := Lib.hid (show Holds w1 q off (P ++ X1 ++ Y1 ++ X2 ++ (Y2 ++ S)) ∧ Mut q off (off + len) w w1 ∧ cin w1 from ⟨hh.out, HS0.out.2.1.trans hm.out, HC.out.over _ _ _ _ HS0.out.2.2 hm.out⟩)
                go_wp2_with fail
                have HS2 := Lib.hid (show Fil key (X1 ++ Y1) (X1 ++ Y1) ∧ Srt key (X1 ++ Y1) ∧ Holds w1 q off (P ++ (X1 ++ Y1) ++ (X2 ++ (Y2 ++ S))) ∧ Mut q off (off + len) w w1 ∧ cin w1 from ⟨Fil.refl _, srt_nil HT.out.1 HT.out.2.1 (by have := HP.out.2; omega), by have := HS1.out.1; simpa using this, HS1.out.2⟩)
                go_end0
                have s2 : Srt key (X2 ++ Y2) := srt_nil HT.out.2.2.1 HT.out.2.2.2 (by have := HP.out.2; omega)
                refine ⟨(X1 ++ Y1) ++ (X2 ++ Y2), ⟨?_, ?_, ?_, HS2.out.2.2.2.1, HS2.out.2.2.2.2⟩, rfl⟩
                · have := (merge_step HT2.out.1 HT2.out.2 HA.out HB.out HS2.out.1 HS2.out.2.1 (Fil.refl (key := key) (X2 ++ Y2)) s2).1
                  rwa [HXY.out.1, HXY.out.2] at this
                · exact (merge_step HT2.out.1 HT2.out.2 HA.out HB.out HS2.out.1 HS2.out.2.1 (Fil.refl (key := key) (X2 ++ Y2)) s2).2
                · have := HS2.out.2.2.1
                  simpa using this
          · rcases Nat.lt_or_ge en nb with c4 | c4
            · have t1 : (st : Int) < (nm : Int) := by omega
              have t2 : ¬ (nm : Int) < (mid : Int) + (nm : Int) - (st : Int) := by omega
              have t3 : (na : Int) < (st : Int) := by omega
              have t4 : ¬ (st : Int) < (mid : Int) := by omega
              have t5 : (mid : Int) < (mid : Int) + (nm : Int) - (st : Int) := by omega
              have t6 : (mid : Int) + (nm : Int) - (st : Int) < (nb : Int) := by omega
              go_wp2_with fail
              have HS1 := Lib.hid (show Holds wr q off (P ++ X1 ++ Y1 ++ X2 ++ (Y2 ++ S)) ∧ Mut q off (off + len) w wr ∧ cin wr from ⟨by rw [← swap_nil HP.out.1 (by have := HP.out.2; omega)]; exact HS0.out.1, HS0.out.2⟩)
              have HS2 := Lib.hid (show Fil key (X1 ++ Y1) (X1 ++ Y1) ∧ Srt key (X1 ++ Y1) ∧ Holds wr q off (P ++ (X1 ++ Y1) ++ (X2 ++ (Y2 ++ S))) ∧ Mut q off (off + len) w wr ∧ cin wr from ⟨Fil.refl _, srt_nil HT.out.1 HT.out.2.1 (by have := HP.out.2; omega), by have := HS1.out.1; simpa using this, HS1.out.2⟩)
              refine (IH.out _ (P ++ (X1 ++ Y1)) X2 Y2 S _ _ _ _ (by have := HP.out.2; have := HD.out; omega) HS2.out.2.2.2.2 HS2.out.2.2.1 (by have := HP.out.2; have := HS2.out.1.length; simp at this ⊢; omega) (by simp) HT.out.2.2.1 HT.out.2.2.2 (by have := HP.out.2; omega) (by have := HP.out.2; omega) (by have := HP.out.2; have := HS2.out.1.length; simp at this ⊢; omega) (by have := HP.out.2; have := HS2.out.1.length; simp at this ⊢; omega) (by have := HP.out.2; have := HS2.out.1.length; simp at this ⊢; omega)).mono ?_
              rintro e w3 ⟨Z2, ⟨f2, s2, hh3, hm3, hc3⟩, rfl⟩
              have HS3 := Lib.hid (And.intro f2 (And.intro s2 (And.intro hh3 (And.intro hm3 hc3))))
              clear f2 s2 hh3 hm3 hc3
              go_wp2_with fail
              go_end0
              refine ⟨(X1 ++ Y1) ++ Z2, ⟨?_, ?_, ?_, HS2.out.2.2.2.1.trans HS3.out.2.2.2.1, HS3.out.2.2.2.2⟩, rfl⟩
              · have := (merge_step HT2.out.1 HT2.out.2 HA.out HB.out HS2.out.1 HS2.out.2.1 HS3.out.1 HS3.out.2.1).1
                rwa [HXY.out.1, HXY.out.2] at this
              · exact (merge_step HT2.out.1 HT2.out.2 HA.out HB.out HS2.out.1 HS2.out.2.1 HS3.out.1 HS3.out.2.1).2
              · have := HS3.out.2.2.1
                simpa using this
            · exfalso; omega
        · rcases Nat.lt_or_ge st mid with c3 | c3
          · have t1 : ¬ (st : Int) < (nm : Int) := by omega
            have t3 : (na : Int) < (st : Int) := by omega
            have t4 : (st : Int) < (mid : Int) := by omega
            have t5 : ¬ (mid : Int) < (mid : Int) + (nm : Int) - (st : Int) := by omega
            go_wp2_with fail
            have HS1 := Lib.hid (show Holds wr q off (P ++ X1 ++ Y1 ++ X2 ++ (Y2 ++ S)) ∧ Mut q off (off + len) w wr ∧ cin wr from ⟨by rw [← swap_nil HP.out.1 (by have := HP.out.2; omega)]; exact HS0.out.1, HS0.out.2⟩)
            refine (IH.out _ P X1 Y1 (X2 ++ (Y2 ++ S)) _ _ _ _ (by have := HP.out.2; have := HD.out; omega) HS1.out.2.2 HS1.out.1 (by have := HP.out.2; simp; omega) (by simp) HT.out.1 HT.out.2.1 (by have := HP.out.2; omega) (by have := HP.out.2; omega) (by have := HP.out.2; omega) (by have := HP.out.2; omega) (by have := HP.out.2; omega)).mono ?_
            rintro e w2 ⟨Z1, ⟨f1, s1, hh2, hm2, hc2⟩, rfl⟩
            have HS2 := Lib.hid (show Fil key (X1 ++ Y1) Z1 ∧ Srt key Z1 ∧ Holds w2 q off (P ++ Z1 ++ (X2 ++ (Y2 ++ S))) ∧ Mut q off (off + len) w w2 ∧ cin w2 from ⟨f1, s1, hh2, HS1.out.2.1.trans hm2, hc2⟩)
            clear f1 s1 hh2 hm2 hc2
            go_wp2_with fail
            go_end0
            have s2 : Srt key (X2 ++ Y2) := srt_nil HT.out.2.2.1 HT.out.2.2.2 (by have := HP.out.2; omega)
            refine ⟨Z1 ++ (X2 ++ Y2), ⟨?_, ?_, ?_, HS2.out.2.2.2.1, HS2.out.2.2.2.2⟩, rfl⟩
            · have := (merge_step HT2.out.1 HT2.out.2 HA.out HB.out HS2.out.1 HS2.out.2.1 (Fil.refl (key := key) (X2 ++ Y2)) s2).1
              rwa [HXY.out.1, HXY.out.2] at this
            · exact (merge_step HT2.out.1 HT2.out.2 HA.out HB.out HS2.out.1 HS2.out.2.1 (Fil.refl (key := key) (X2 ++ Y2)) s2).2
            · have := HS2.out.2.2.1
              simpa using this
          · have t1 : ¬ (st : Int) < (nm : Int) := by omega
            have t3 : (na : Int) < (st : Int) := by omega
            have t4 : ¬ (st : Int) < (mid : Int) := by omega
            have t5 : ¬ (mid : Int) < (mid : Int) + (nm : Int) - (st : Int) := by omega
            go_wp2_with fail
            have HS1 := Lib.hid (show Holds wr q off (P ++ X1 ++ Y1 ++ X2 ++ (Y2 ++ S)) ∧ Mut q off (off + len) w wr ∧ cin wr from ⟨by rw [← swap_nil HP.out.1 (by have := HP.out.2; omega)]; exact HS0.out.1, HS0.out.2⟩)
            have HS2 := Lib.hid (show Fil key (X1 ++ Y1) (X1 ++ Y1) ∧ Srt key (X1 ++ Y1) ∧ Holds wr q off (P ++ (X1 ++ Y1) ++ (X2 ++ (Y2 ++ S))) ∧ Mut q off (off + len) w wr ∧ cin wr from ⟨Fil.refl _, srt_nil HT.out.1 HT.out.2.1 (by have := HP.out.2; omega), by have := HS1.out.1; simpa using this, HS1.out.2⟩)
            go_end0
            have s2 : Srt key (X2 ++ Y2) := srt_nil HT.out.2.2.1 HT.out.2.2.2 (by have := HP.out.2; omega)
            refine ⟨(X1 ++ Y1) ++ (X2 ++ Y2), ⟨?_, ?_, ?_, HS2.out.2.2.2.1, HS2.out.2.2.2.2⟩, rfl⟩
            · have := (merge_step HT2.out.1 HT2.out.2 HA.out HB.out HS2.out.1 HS2.out.2.1 (Fil.refl (key := key) (X2 ++ Y2)) s2).1
              rwa [HXY.out.1, HXY.out.2] at this
            · exact (merge_step HT2.out.1 HT2.out.2 HA.out HB.out HS2.out.1 HS2.out.2.1 (Fil.refl (key := key) (X2 ++ Y2)) s2).2
            · have := HS2.out.2.2.1
              simpa using this
end Go.Proofs.YtamekpldmplenaaDoor
