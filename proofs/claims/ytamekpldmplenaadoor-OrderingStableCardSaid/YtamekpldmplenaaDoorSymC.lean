import Derived.Test.YtamekpldmplenaaDoorSymB
namespace Go.Proofs.YtamekpldmplenaaDoor
open Go.RowKit Go.Shelf

set_option maxRecDepth 100000 in
set_option maxHeartbeats 2000000 in
theorem sym_one_right (q off len cap Bc : Nat) (key : Int → Int) (cin : World → Prop) (hc : CmpOk q Bc key cin) (xs P X S : List Int) (y : Int) (va vm vb : Int) (w : World) (hcin : cin w) (hH : Holds w q off xs) (hl : xs.length = len) (hbd : len < 17592186044417) (hx : xs = P ++ X ++ [y] ++ S)
    (hX : Srt key X) (hX1 : X.length ≠ 1) (ha : va = P.length) (hm : vm = P.length + X.length) (hb : vb = P.length + X.length + 1) :
    Calls Tryd.prog 56 #[.slice (some ⟨q, off, none⟩) len cap, .int .i64 va, .int .i64 vm, .int .i64 vb, .func (.func 41) #[] #[.pointer (some ⟨Bc, 0, none⟩)]] w (SymPost key cin q off len P (X ++ [y]) S w) := by
  obtain ⟨na, hna⟩ : ∃ n : Nat, n = P.length := ⟨_, rfl⟩
  obtain ⟨nm, hnm⟩ : ∃ n : Nat, n = P.length + X.length := ⟨_, rfl⟩
  obtain rfl : va = na := by omega
  obtain rfl : vm = nm := by omega
  obtain rfl : vb = (nm : Int) + 1 := by omega
  have hlen : P.length + X.length + 1 + S.length = len := by rw [← hl, hx]; simp; omega
  have hnb : nm + 1 ≤ len := by omega
  have hab : na ≤ nm := by omega
  have hqs : q < w.heap.size := hH.lt (i := 0) (by omega)
  have HN := Lib.hid (show na = P.length ∧ nm = P.length + X.length ∧ P.length + X.length + 1 + S.length = len from ⟨hna, hnm, hlen⟩)
  have HX := Lib.hid hx; have HC := Lib.hid hc; have HX1 := Lib.hid hX; have HI := Lib.hid hcin; have HQ := Lib.hid hqs; have HL := Lib.hid hl; have H0 := Lib.hid hH
  have hya : xs[nm]? = some y := by have := elt_mid (P := P) (L := X) (x := y) (R := S); rw [hx, hnm]; simp
  have HYA := Lib.hid hya
  have b1 : ((nm : Int) - (na : Int) == 1) = false := by rw [beq_eq_false_iff_ne]; omega
  have b2 : ((nm : Int) + 1 - (nm : Int) == 1) = true := by rw [beq_iff_eq]; omega
  clear hH hx hc hX hcin hna hnm hlen hqs hya hl ha hm hb hX1
  go_enter Tryd.func56, Tryd.ntmps56
  go_wp2_with fail
  go_loopw [14, 15] (fun s1 s2 wr => ∃ i j : Nat, s1 = .int .i64 i ∧ s2 = .int .i64 j ∧ na ≤ i ∧ i ≤ j ∧ j ≤ nm ∧
      Hid ((∀ (k : Nat) (x : Int), k < i - na → X[k]? = some x → key x ≤ key y) ∧ (∀ (k : Nat) (x : Int), j - na ≤ k → X[k]? = some x → key y < key x) ∧ Holds wr q off xs ∧ Mut q off (off + len) w wr ∧ cin wr))
    (fun s1 s2 _ => (intOf s2 - intOf s1).toNat)
  case atStart =>
    exact ⟨na, nm, rfl, rfl, by omega, by omega, by omega, ⟨fun i y h => absurd h (by omega), fun i y h k => by have := (List.getElem?_eq_some_iff.1 k).1; have := HN.out; omega, H0.out, Mut.refl _ _ _ _, HI.out⟩⟩
  case round =>
    obtain ⟨i, j, rfl, rfl, hai, hij, hjm, HD⟩ := hrel
    by_cases hlt : i < j
    · obtain ⟨h, hh⟩ : ∃ t, t = (i + j) / 2 := ⟨_, rfl⟩
      have Hm := Lib.hid (show ((i : Int) + (j : Int)) / 2 = (h : Int) by omega)
      have h1 : i ≤ h := by omega
      have h2 : h < j := by omega
      clear hh
      have ht : ∃ x, Hid (X[h - na]? = some x) := ⟨_, List.getElem?_eq_getElem (show h - na < X.length by have := HN.out; omega)⟩
      obtain ⟨x, hx⟩ := ht
      have hxy : xs[h]? = some x := by
        have e := HX.out
        have e1 := HN.out.1
        have e2 := at_mid (P := P) (S := [y] ++ S) hx.out
        rw [e, show h = P.length + (h - na) by omega]
        simpa using e2
      have cx := cellsOf HD.out.2.2.1 hxy
      have cy := cellsOf HD.out.2.2.1 HYA.out
      have HKc := Lib.hid (HC.out.below _ _ HD.out.2.2.2.2 (Below.drew (Below.refl _ _)))
      have gy : (h : Int) < (len : Int) := by omega
      have gz : (nm : Int) < (len : Int) := by omega
      clear hxy
      go_wp2_with fail
      rw [Hm.out]
      go_still_tail 9, (by kernel_rfl)
      change wpList _ _ _ _ _ wr.drew
      generalize hw2 : wr.drew = w2
      have HW2 := Lib.hid hw2; clear hw2
      have hqs := World.block_lt_of_cell? wr _ cx
      clear cx cy
      by_cases hk : key y < key x
      · go_wp2_with (go_at_call 41; refine (HC.out.lt _ _ _ (by rw [← HW2.out]; exact HKc.out) hk).mono ?_; rintro e w1 ⟨rfl, hb⟩)
        have HB1 : Hid (Below wr.heap.size wr w1) := by
          have := hb
          rw [← HW2.out] at this
          exact bthen (Below.drew (Below.refl _ _)) this
        go_roundw
        case rel =>
          obtain ⟨d1, d2, d3, d4, d5⟩ := HD.out
          exact ⟨i, h, rfl, rfl, hai, by omega, by omega, ⟨d1, fun k z hi hz => by have := HX1.out.get_le hi hx.out hz; omega, d3.below HB1.out hqs, d4.trans (Mut.of_below HB1.out hqs), HC.out.below _ _ d5 HB1.out⟩⟩
        case measure => simp [intOf] <;> omega
      · go_wp2_with (go_at_call 41; refine (HC.out.ge _ _ _ (by rw [← HW2.out]; exact HKc.out) (by omega)).mono ?_; rintro e w1 ⟨r, hr, rfl, hb⟩)
        have HB1 : Hid (Below wr.heap.size wr w1) := by
          have := hb
          rw [← HW2.out] at this
          exact bthen (Below.drew (Below.refl _ _)) this
        go_roundw
        case rel =>
          obtain ⟨d1, d2, d3, d4, d5⟩ := HD.out
          exact ⟨h + 1, j, by go_num, rfl, by omega, by omega, hjm, ⟨fun k z hi hz => by have := HX1.out.get_le (show k ≤ h - na by omega) hz hx.out; omega, d2, d3.below HB1.out hqs, d4.trans (Mut.of_below HB1.out hqs), HC.out.below _ _ d5 HB1.out⟩⟩
        case measure => simp [intOf] <;> omega
    · have e : i = j := by omega
      subst e
      have Hres := Lib.hid (one_right (key := key) (t := i - na) (y := y) HX1.out HD.out.1 HD.out.2.1)
      obtain ⟨wo, rfl⟩ : ∃ wo : World, wo = wr := ⟨_, rfl⟩
      have hqs : q < wo.heap.size := Nat.lt_of_lt_of_le HQ.out HD.out.2.2.2.1.size
      go_wp2_with fail
      go_loopw [17] (fun s1 wr => ∃ k : Nat, s1 = .int .i64 k ∧ i ≤ k ∧ k ≤ nm ∧
          Hid (Holds wr q off (P ++ X.take (k - na) ++ y :: (X.drop (k - na) ++ S)) ∧ Mut q off (off + len) w wr ∧ cin wr))
        (fun s1 _ => (intOf s1).toNat)
      case atStart =>
        refine ⟨nm, rfl, by omega, by omega, ?_, HD.out.2.2.2.1, HD.out.2.2.2.2⟩
        have := HD.out.2.2.1
        rw [HX.out] at this
        rw [List.take_of_length_le (by have := HN.out; omega), List.drop_of_length_le (by have := HN.out; omega)]
        simpa using this
      case round =>
        obtain ⟨k, rfl, hik, hkm, HE⟩ := hrel
        by_cases hlt' : i < k
        · obtain ⟨p, rfl⟩ : ∃ p, k = p + 1 := ⟨k - 1, by omega⟩
          have ht : ∃ x, Hid (X[p - na]? = some x) := ⟨_, List.getElem?_eq_getElem (show p - na < X.length by have := HN.out; omega)⟩
          obtain ⟨x, hx⟩ := ht
          have e1 := HN.out.1
          have htl : (X.take (p - na)).length = p - na := by have := HN.out; simp; omega
          have hls := Lib.hid (show P ++ X.take (p + 1 - na) ++ y :: (X.drop (p + 1 - na) ++ S) = P ++ (X.take (p - na) ++ [x]) ++ y :: (X.drop (p + 1 - na) ++ S) by
            rw [show p + 1 - na = p - na + 1 by omega, take_succ_at hx.out])
          have hh := HE.out.1
          rw [hls.out] at hh
          have hc1 := hh.at_ (i := p + 1) (x := y) (by
            have := elt_mid (P := P) (L := X.take (p - na) ++ [x]) (x := y) (R := X.drop (p + 1 - na) ++ S)
            rwa [List.length_append, htl, show P.length + (p - na + [x].length) = p + 1 by simp; omega] at this)
          have hc2 := hh.at_ (i := p) (x := x) (by
            have := elt_mid (P := P) (L := X.take (p - na)) (x := x) (R := y :: (X.drop (p + 1 - na) ++ S))
            rw [htl, show P.length + (p - na) = p by omega] at this
            simpa using this)
          have HH := Lib.hid hh
          obtain ⟨cy, fy⟩ := hc1
          obtain ⟨cx, fx⟩ := hc2
          have E1 := Lib.hid e1
          have HTL := Lib.hid htl
          have gp : IntKind.i64.wrap (p : Int) = (p : Int) := IntWalk.i64_in _ (by omega)
          have ga : (0 : Int) ≤ (p : Int) + 1 := by omega
          have gb : (p : Int) < (len : Int) := by omega
          have gd : (p : Int) + 1 < (len : Int) := by omega
          clear e1 htl hh
          go_wp2_with fail
          go_region
          all_goals go_wp2_with fail
          go_roundw
          case rel =>
            refine ⟨p, by go_num, by omega, by omega, ?_, ?_, ?_⟩
            · have hlen : (P ++ (X.take (p - na) ++ [x]) ++ y :: (X.drop (p + 1 - na) ++ S)).length = len := by have := HN.out; simp; omega
              have h2 := ((HH.out.set (i := p + 1) (by rw [hlen]; omega) x).set (i := p) (by rw [List.length_set, hlen]; omega) y).drew
              have h3 := set_two (P := P) (L := X.take (p - na)) (R := X.drop (p + 1 - na) ++ S) (x := y) (y := x)
              rw [HTL.out, ← E1.out, show na + (p - na) = p by omega] at h3
              rw [h3] at h2
              rw [drop_at hx.out, show p - na + 1 = p + 1 - na by omega]
              exact h2
            · exact ((HE.out.2.1.setCell (by omega) (by omega) _).setCell (by omega) (by omega) _).drewN 1
            · exact HC.out.below _ _ (HC.out.set _ _ _ (HC.out.set _ _ _ HE.out.2.2)) (Below.drew (Below.refl _ _))
          case measure => simp [intOf] <;> omega
        · have e : k = i := by omega
          subst e
          go_wp2_with fail
          refine bodyPost_ret (results_none rfl _ _ _) rfl ?_
          exact ⟨_, ⟨Hres.out.1, Hres.out.2, by simpa using HE.out.1, HE.out.2.1, HE.out.2.2⟩, rfl⟩
end Go.Proofs.YtamekpldmplenaaDoor
