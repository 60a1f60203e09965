import Derived.Test.YtamekpldmplenaaDoorInsert
namespace Go.Proofs.YtamekpldmplenaaDoor
open Go.RowKit Go.Shelf
variable {key : Int → Int}

theorem Srt.get_le {Y : List Int} (h : Srt key Y) {i j : Nat} {x y : Int} (hij : i ≤ j) (hx : Y[i]? = some x) (hy : Y[j]? = some y) : key x ≤ key y := by
  obtain ⟨hi, rfl⟩ := List.getElem?_eq_some_iff.1 hx
  obtain ⟨hj, rfl⟩ := List.getElem?_eq_some_iff.1 hy
  rcases Nat.lt_or_eq_of_le hij with h' | h'
  · exact (List.pairwise_iff_getElem.1 h) i j hi hj h'
  · subst h'; exact Int.le_refl _
theorem Srt.take {Y : List Int} (h : Srt key Y) (t : Nat) : Srt key (Y.take t) := List.Pairwise.sublist (List.take_sublist t Y) h
theorem Srt.drop {Y : List Int} (h : Srt key Y) (t : Nat) : Srt key (Y.drop t) := List.Pairwise.sublist (List.drop_sublist t Y) h
theorem mem_take_iff {Y : List Int} {t : Nat} {x : Int} (h : x ∈ Y.take t) : ∃ i, i < t ∧ Y[i]? = some x := by
  obtain ⟨i, hi⟩ := List.mem_iff_getElem?.1 h
  rw [List.getElem?_take] at hi
  by_cases e : i < t
  · rw [if_pos e] at hi; exact ⟨i, e, hi⟩
  · rw [if_neg e] at hi; cases hi
theorem mem_drop_iff {Y : List Int} {t : Nat} {x : Int} (h : x ∈ Y.drop t) : ∃ i, t ≤ i ∧ Y[i]? = some x := by
  obtain ⟨i, hi⟩ := List.mem_iff_getElem?.1 h
  rw [List.getElem?_drop] at hi
  exact ⟨t + i, by omega, hi⟩
/-- One element in front of a sorted list, put where it belongs. -/
theorem one_left {Y : List Int} {x : Int} {t : Nat} (h : Srt key Y) (h1 : ∀ (i : Nat) (y : Int), i < t → Y[i]? = some y → key y < key x) (h2 : ∀ (i : Nat) (y : Int), t ≤ i → Y[i]? = some y → key x ≤ key y) :
    Fil key ([x] ++ Y) (Y.take t ++ x :: Y.drop t) ∧ Srt key (Y.take t ++ x :: Y.drop t) := by
  have a1 : ∀ y ∈ Y.take t, key y < key x := fun y hy => by obtain ⟨i, hi, e⟩ := mem_take_iff hy; exact h1 i y hi e
  have a2 : ∀ y ∈ Y.drop t, key x ≤ key y := fun y hy => by obtain ⟨i, hi, e⟩ := mem_drop_iff hy; exact h2 i y hi e
  constructor
  · conv => lhs; rw [← List.take_append_drop t Y]
    have := (Fil.swap (key := key) (a := [x]) (b := Y.take t) (fun u hu y hy => by simp at hu; subst hu; have := a1 y hy; omega)).append (Fil.refl (Y.drop t))
    simpa using this
  · unfold Srt
    rw [List.pairwise_append]
    refine ⟨h.take t, List.pairwise_cons.2 ⟨a2, h.drop t⟩, fun u hu v hv => ?_⟩
    have := a1 u hu
    rcases List.mem_cons.1 hv with rfl | hv
    · omega
    · have := a2 v hv; omega
/-- One element behind a sorted list, put where it belongs. -/
theorem one_right {X : List Int} {y : Int} {t : Nat} (h : Srt key X) (h1 : ∀ (i : Nat) (x : Int), i < t → X[i]? = some x → key x ≤ key y) (h2 : ∀ (i : Nat) (x : Int), t ≤ i → X[i]? = some x → key y < key x) :
    Fil key (X ++ [y]) (X.take t ++ y :: X.drop t) ∧ Srt key (X.take t ++ y :: X.drop t) := by
  have a1 : ∀ x ∈ X.take t, key x ≤ key y := fun y hy => by obtain ⟨i, hi, e⟩ := mem_take_iff hy; exact h1 i y hi e
  have a2 : ∀ x ∈ X.drop t, key y < key x := fun y hy => by obtain ⟨i, hi, e⟩ := mem_drop_iff hy; exact h2 i y hi e
  constructor
  · have := Fil.insert (key := key) (L := X.take t) (R := X.drop t) (x := y) a2
    rwa [List.take_append_drop] at this
  · exact Srt.insert (by rw [List.take_append_drop]; exact h) a1 a2
theorem take_succ_at {Y : List Int} {t : Nat} {y : Int} (h : Y[t]? = some y) : Y.take (t + 1) = Y.take t ++ [y] := by
  obtain ⟨hl, rfl⟩ := List.getElem?_eq_some_iff.1 h
  exact List.take_succ_eq_append_getElem hl
theorem drop_at {Y : List Int} {t : Nat} {y : Int} (h : Y[t]? = some y) : Y.drop t = y :: Y.drop (t + 1) := by
  obtain ⟨hl, rfl⟩ := List.getElem?_eq_some_iff.1 h
  exact List.drop_eq_getElem_cons hl
theorem set_two' {P L R : List Int} {x y : Int} : ((P ++ L ++ x :: (y :: R)).set (P.length + L.length) y).set (P.length + L.length + 1) x = P ++ (L ++ [y]) ++ x :: R := by
  rw [show P ++ L ++ x :: (y :: R) = (P ++ L) ++ (x :: y :: R) by simp]
  rw [List.set_append_right _ _ (by simp), List.set_append_right _ _ (by simp only [List.length_append]; omega)]
  simp only [List.length_append]
  rw [show P.length + L.length + 1 - (P.length + L.length) = 1 by omega, show P.length + L.length - (P.length + L.length) = 0 by omega]
  simp
theorem at_mid {P Y S : List Int} {t : Nat} {y : Int} (h : Y[t]? = some y) : (P ++ Y ++ S)[P.length + t]? = some y := by
  have := (List.getElem?_eq_some_iff.1 h).1
  rw [List.append_assoc, List.getElem?_append_right (by omega), List.getElem?_append_left (by omega)]
  rw [show P.length + t - P.length = t by omega]; exact h
/-- The merge's step: the lower halves first, then the upper ones. -/
theorem merge_step {X1 X2 Y1 Y2 Z1 Z2 : List Int} (hX : Srt key (X1 ++ X2)) (hY : Srt key (Y1 ++ Y2)) (hA : ∀ x ∈ X1, ∀ y ∈ Y2, key x ≤ key y) (hB : ∀ y ∈ Y1, ∀ x ∈ X2, key y < key x)
    (f1 : Fil key (X1 ++ Y1) Z1) (s1 : Srt key Z1) (f2 : Fil key (X2 ++ Y2) Z2) (s2 : Srt key Z2) : Fil key ((X1 ++ X2) ++ (Y1 ++ Y2)) (Z1 ++ Z2) ∧ Srt key (Z1 ++ Z2) := by
  constructor
  · have h := ((Fil.refl (key := key) X1).append (Fil.swap (key := key) (a := X2) (b := Y1) (fun x hx y hy => by have := hB y hy x hx; omega))).append (Fil.refl Y2)
    have k := f1.append f2
    have e1 : X1 ++ (X2 ++ Y1) ++ Y2 = (X1 ++ X2) ++ (Y1 ++ Y2) := by simp
    have e2 : X1 ++ (Y1 ++ X2) ++ Y2 = (X1 ++ Y1) ++ (X2 ++ Y2) := by simp
    rw [e1, e2] at h
    exact h.trans k
  · unfold Srt at hX hY
    rw [List.pairwise_append] at hX hY
    unfold Srt
    rw [List.pairwise_append]
    refine ⟨s1, s2, fun a ha b hb => ?_⟩
    have ha' := (f1.mem a).1 ha
    have hb' := (f2.mem b).1 hb
    rcases List.mem_append.1 ha' with ha' | ha' <;> rcases List.mem_append.1 hb' with hb' | hb'
    · exact hX.2.2 a ha' b hb'
    · exact hA a ha' b hb'
    · have := hB a ha' b hb'; omega
    · exact hY.2.2 a ha' b hb'
theorem mem_take_le {X : List Int} (h : Srt key X) {u : Nat} {z : Int} (hz : X[u]? = some z) {x : Int} (hx : x ∈ X.take (u + 1)) : key x ≤ key z := by
  obtain ⟨i, hi, e⟩ := mem_take_iff hx
  exact h.get_le (show i ≤ u by omega) e hz
theorem mem_drop_ge {X : List Int} (h : Srt key X) {u : Nat} {z : Int} (hz : X[u]? = some z) {x : Int} (hx : x ∈ X.drop u) : key z ≤ key x := by
  obtain ⟨i, hi, e⟩ := mem_drop_iff hx
  exact h.get_le hi hz e
end Go.Proofs.YtamekpldmplenaaDoor
