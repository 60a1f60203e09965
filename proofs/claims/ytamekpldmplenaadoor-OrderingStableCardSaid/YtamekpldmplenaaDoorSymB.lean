import Derived.Test.YtamekpldmplenaaDoorSymA
namespace Go.Proofs.YtamekpldmplenaaDoor
open Go.RowKit Go.Shelf

/-- What a merge leaves: the middle piece in its stable order, all else as it was. -/
def SymPost (key : Int → Int) (cin : World → Prop) (q off len : Nat) (P Z S : List Int) (w : World) (e : Ending) (w' : World) : Prop :=
  ∃ ys, (Fil key Z ys ∧ Srt key ys ∧ Holds w' q off (P ++ ys ++ S) ∧ Mut q off (off + len) w w' ∧ cin w') ∧ e = .returned (.tuple #[])
theorem cellsOf {w : World} {q off i : Nat} {x : Int} {xs : List Int} (h : Holds w q off xs) (hx : xs[i]? = some x) : w.cell? ⟨q, off + i, none⟩ = some (.int .i64 x) := (h.at_ hx).1

set_option maxRecDepth 100000 in
set_option maxHeartbeats 2000000 in
theorem sym_one_left (q off len cap Bc : Nat) (key : Int → Int) (cin : World → Prop) (hc : CmpOk q Bc key cin) (xs P Y S : List Int) (x : Int) (va vm vb : Int) (w : World) (hcin : cin w) (hH : Holds w q off xs) (hl : xs.length = len) (hbd : len < 17592186044417) (hx : xs = P ++ [x] ++ Y ++ S)
    (hY : Srt key Y) (ha : va = P.length) (hm : vm = P.length + 1) (hb : vb = P.length + 1 + Y.length) :
    Calls Tryd.prog 56 #[.slice (some ⟨q, off, none⟩) len cap, .int .i64 va, .int .i64 vm, .int .i64 vb, .func (.func 41) #[] #[.pointer (some ⟨Bc, 0, none⟩)]] w (SymPost key cin q off len P ([x] ++ Y) S w) := by
  obtain ⟨na, hna⟩ : ∃ n : Nat, n = P.length := ⟨_, rfl⟩
  obtain ⟨ny, hny⟩ : ∃ n : Nat, n = Y.length := ⟨_, rfl⟩
  obtain rfl : va = na := by omega
  obtain rfl : vm = (na : Int) + 1 := by omega
  obtain rfl : vb = (na : Int) + 1 + ny := by omega
  have hlen : P.length + 1 + Y.length + S.length = len := by rw [← hl, hx]; simp; omega
  have hnb : na + 1 + ny ≤ len := by omega
  have hqs : q < w.heap.size := hH.lt (i := 0) (by omega)
  have HN := Lib.hid (show na = P.length ∧ ny = Y.length ∧ P.length + 1 + Y.length + S.length = len from ⟨hna, hny, hlen⟩)
  have HX := Lib.hid hx; have HC := Lib.hid hc; have HY := Lib.hid hY; have HI := Lib.hid hcin; have HQ := Lib.hid hqs; have HL := Lib.hid hl; have H0 := Lib.hid hH
  have hxa : xs[na]? = some x := by have := elt_mid (P := P) (L := []) (x := x) (R := Y ++ S); rw [hx, hna]; simp
  have HXA := Lib.hid hxa
  have b1 : ((na : Int) + 1 - (na : Int) == 1) = true := by rw [beq_iff_eq]; omega
  have gw : ∀ k : Nat, k ≤ len → IntKind.i64.wrap (k : Int) = (k : Int) := fun k hk => IntWalk.i64_in _ (by omega)
  have g0 := gw na (by omega)
  clear hH hx hc hY hcin hna hny hlen hqs hxa hl ha hm hb gw
  go_enter Tryd.func56, Tryd.ntmps56
  go_wp2_with fail
  go_loopw [10, 11] (fun s1 s2 wr => ∃ u v : Nat, s1 = .int .i64 ((na : Int) + 1 + u) ∧ s2 = .int .i64 ((na : Int) + 1 + v) ∧ u ≤ v ∧ v ≤ ny ∧
      Hid ((∀ (i : Nat) (y : Int), i < u → Y[i]? = some y → key y < key x) ∧ (∀ (i : Nat) (y : Int), v ≤ i → Y[i]? = some y → key x ≤ key y) ∧ Holds wr q off xs ∧ Mut q off (off + len) w wr ∧ cin wr))
    (fun s1 s2 _ => (intOf s2 - intOf s1).toNat)
  case atStart =>
    exact ⟨0, ny, by go_num, rfl, by omega, by omega, ⟨fun i y h => absurd h (by omega), fun i y h k => by have := (List.getElem?_eq_some_iff.1 k).1; have := HN.out.2.1; omega, H0.out, Mut.refl _ _ _ _, HI.out⟩⟩
  case round =>
    obtain ⟨u, v, rfl, rfl, huv, hvn, HD⟩ := hrel
    by_cases hlt : u < v
    · obtain ⟨t, ht⟩ : ∃ t, t = (u + v) / 2 := ⟨_, rfl⟩
      have Hm := Lib.hid (show ((na : Int) + 1 + u + ((na : Int) + 1 + v)) / 2 = (na : Int) + 1 + t by omega)
      have h1 : u ≤ t := by omega
      have h2 : t < v := by omega
      clear ht
      have ht : ∃ y, Hid (Y[t]? = some y) := ⟨_, List.getElem?_eq_getElem (show t < Y.length by have := HN.out.2.1; omega)⟩
      obtain ⟨y, hy⟩ := ht
      have hxy : xs[na + 1 + t]? = some y := by
        have e := HX.out
        have e1 := HN.out.1
        have e2 := at_mid (P := P ++ [x]) (S := S) hy.out
        rw [e, e1]
        simpa using e2
      have cy := cellsOf HD.out.2.2.1 hxy
      have cx := cellsOf HD.out.2.2.1 HXA.out
      have HKc := Lib.hid (HC.out.below _ _ HD.out.2.2.2.2 (Below.drew (Below.refl _ _)))
      have gx : (0 : Int) ≤ (na : Int) + 1 + t := by omega
      have gy : (na : Int) + 1 + t < (len : Int) := by omega
      have gz : (na : Int) < (len : Int) := by omega
      have gt : ((na : Int) + 1 + (t : Int)).toNat = na + 1 + t := by omega
      clear hxy
      go_wp2_with fail
      rw [Hm.out]
      go_still_tail 9, (by kernel_rfl)
      change wpList _ _ _ _ _ wr.drew
      generalize hw2 : wr.drew = w2
      have HW2 := Lib.hid hw2; clear hw2
      have hqs := World.block_lt_of_cell? wr _ cx
      clear cx cy
      by_cases hk : key y < key x
      · go_wp2_with (go_at_call 41; refine (HC.out.lt _ _ _ (by rw [← HW2.out]; exact HKc.out) hk).mono ?_; rintro e w1 ⟨rfl, hb⟩)
        have HB1 : Hid (Below wr.heap.size wr w1) := by
          have := hb
          rw [← HW2.out] at this
          exact bthen (Below.drew (Below.refl _ _)) this
        go_roundw
        case rel =>
          obtain ⟨d1, d2, d3, d4, d5⟩ := HD.out
          exact ⟨t + 1, v, by go_num, rfl, by omega, hvn, ⟨fun i z hi hz => by have := HY.out.get_le (show i ≤ t by omega) hz hy.out; omega, d2, d3.below HB1.out hqs, d4.trans (Mut.of_below HB1.out hqs), HC.out.below _ _ d5 HB1.out⟩⟩
        case measure => simp [intOf]; omega
      · go_wp2_with (go_at_call 41; refine (HC.out.ge _ _ _ (by rw [← HW2.out]; exact HKc.out) (by omega)).mono ?_; rintro e w1 ⟨r, hr, rfl, hb⟩)
        have HB1 : Hid (Below wr.heap.size wr w1) := by
          have := hb
          rw [← HW2.out] at this
          exact bthen (Below.drew (Below.refl _ _)) this
        go_roundw
        case rel =>
          obtain ⟨d1, d2, d3, d4, d5⟩ := HD.out
          exact ⟨u, t, rfl, rfl, by omega, by omega, ⟨d1, fun i z hi hz => by have := HY.out.get_le hi hy.out hz; omega, d3.below HB1.out hqs, d4.trans (Mut.of_below HB1.out hqs), HC.out.below _ _ d5 HB1.out⟩⟩
        case measure => simp [intOf]; omega
    · have e : u = v := by omega
      subst e
      have Hres := Lib.hid (one_left (key := key) (t := u) (x := x) HY.out HD.out.1 HD.out.2.1)
      obtain ⟨wo, rfl⟩ : ∃ wo : World, wo = wr := ⟨_, rfl⟩
      have hqs : q < wo.heap.size := Nat.lt_of_lt_of_le HQ.out HD.out.2.2.2.1.size
      go_wp2_with fail
      go_loopw [13] (fun s1 wr => ∃ t : Nat, s1 = .int .i64 ((na : Int) + t) ∧ t ≤ u ∧
          Hid (Holds wr q off (P ++ Y.take t ++ x :: (Y.drop t ++ S)) ∧ Mut q off (off + len) w wr ∧ cin wr))
        (fun s1 _ => ((na : Int) + u - intOf s1).toNat)
      case atStart =>
        refine ⟨0, by go_num, by omega, ?_, HD.out.2.2.2.1, HD.out.2.2.2.2⟩
        have := HD.out.2.2.1
        rw [HX.out] at this
        simpa using this
      case round =>
        obtain ⟨t, rfl, htu, HE⟩ := hrel
        by_cases hlt' : t < u
        · have ht : ∃ y, Hid (Y[t]? = some y) := ⟨_, List.getElem?_eq_getElem (show t < Y.length by have := HN.out.2.1; omega)⟩
          obtain ⟨y, hy⟩ := ht
          have e1 := HN.out.1
          have htl : (Y.take t).length = t := by have := HN.out.2.1; simp; omega
          have hc1 := HE.out.1.at_ (i := na + t) (x := x) (by
            have := elt_mid (P := P) (L := Y.take t) (x := x) (R := Y.drop t ++ S)
            rwa [htl, ← e1] at this)
          have hc2 := HE.out.1.at_ (i := na + t + 1) (x := y) (by
            rw [drop_at hy.out, show P ++ Y.take t ++ x :: (y :: Y.drop (t + 1) ++ S) = P ++ (Y.take t ++ [x]) ++ y :: (Y.drop (t + 1) ++ S) by simp]
            have := elt_mid (P := P) (L := Y.take t ++ [x]) (x := y) (R := Y.drop (t + 1) ++ S)
            rwa [List.length_append, htl, ← e1, ← Nat.add_assoc] at this)
          obtain ⟨cx, fx⟩ := hc1
          obtain ⟨cy, fy⟩ := hc2
          have E1 := Lib.hid e1
          have HTL := Lib.hid htl
          have ga : (0 : Int) ≤ (na : Int) + t := by omega
          have gb : (na : Int) + t < (len : Int) := by omega
          have gc : (0 : Int) ≤ (na : Int) + t + 1 := by omega
          have gd : (na : Int) + t + 1 < (len : Int) := by omega
          clear e1 htl
          go_wp2_with fail
          go_region
          all_goals go_wp2_with fail
          go_roundw
          case rel =>
            refine ⟨t + 1, by go_num, by omega, ?_, ?_, ?_⟩
            · have hlen : (P ++ Y.take t ++ x :: (Y.drop t ++ S)).length = len := by have := HN.out; simp; omega
              have h1 := HE.out.1
              have h2 := ((h1.set (i := na + t) (by rw [hlen]; omega) y).set (i := na + t + 1) (by rw [List.length_set, hlen]; omega) x).drew
              rw [drop_at hy.out] at h2
              have h3 := set_two' (P := P) (L := Y.take t) (R := Y.drop (t + 1) ++ S) (x := x) (y := y)
              rw [HTL.out, ← E1.out] at h3
              rw [List.cons_append, h3, ← take_succ_at hy.out] at h2
              exact h2
            · exact ((HE.out.2.1.setCell (by omega) (by omega) _).setCell (by omega) (by omega) _).drewN 1
            · exact HC.out.below _ _ (HC.out.set _ _ _ (HC.out.set _ _ _ HE.out.2.2)) (Below.drew (Below.refl _ _))
          case measure => simp [intOf]; omega
        · have e : t = u := by omega
          subst e
          have hnl : ¬ (na : Int) + t < (na : Int) + t + 1 - 1 := by omega
          go_wp2_with fail
          refine bodyPost_ret (results_none rfl _ _ _) rfl ?_
          exact ⟨_, ⟨Hres.out.1, Hres.out.2, by simpa using HE.out.1, HE.out.2.1, HE.out.2.2⟩, rfl⟩
end Go.Proofs.YtamekpldmplenaaDoor
