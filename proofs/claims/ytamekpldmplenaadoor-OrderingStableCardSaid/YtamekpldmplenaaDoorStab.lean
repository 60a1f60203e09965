namespace Go.Proofs.YtamekpldmplenaaDoor

/-! Stable sorting of a list by a key: for each key the elements with it stand in their old order, and the keys ascend. -/
def Fil (key : Int → Int) (xs ys : List Int) : Prop := ∀ c, ys.filter (fun x => decide (key x = c)) = xs.filter (fun x => decide (key x = c))
def Srt (key : Int → Int) (l : List Int) : Prop := l.Pairwise fun x y => key x ≤ key y
variable {key : Int → Int}
theorem Fil.refl (xs : List Int) : Fil key xs xs := fun _ => rfl
theorem Fil.trans {a b c : List Int} (h : Fil key a b) (k : Fil key b c) : Fil key a c := fun d => (k d).trans (h d)
theorem Fil.append {a b a' b' : List Int} (h : Fil key a a') (k : Fil key b b') : Fil key (a ++ b) (a' ++ b') := fun c => by rw [List.filter_append, List.filter_append, h c, k c]
theorem Fil.mem {xs ys : List Int} (h : Fil key xs ys) (x : Int) : x ∈ ys ↔ x ∈ xs := by
  have e : x ∈ ys.filter (fun y => decide (key y = key x)) ↔ x ∈ xs.filter (fun y => decide (key y = key x)) := by rw [h (key x)]
  simpa using e
theorem Fil.perm : ∀ {xs ys : List Int}, Fil key xs ys → xs.Perm ys := by
  intro xs ys h
  rw [List.perm_iff_count]
  intro a
  have := congrArg (List.count a) (h (key a))
  rw [List.count_filter (by simp), List.count_filter (by simp)] at this
  exact this.symm
theorem Fil.length {xs ys : List Int} (h : Fil key xs ys) : ys.length = xs.length := h.perm.length_eq.symm
theorem Fil.left {a a' b : List Int} (h : Fil key (a ++ b) (a' ++ b)) : Fil key a a' := fun c => by
  have := h c
  rw [List.filter_append, List.filter_append] at this
  exact List.append_cancel_right this
theorem Fil.right {a b b' : List Int} (h : Fil key (a ++ b) (a ++ b')) : Fil key b b' := fun c => by
  have := h c
  rw [List.filter_append, List.filter_append] at this
  exact List.append_cancel_left this
/-- Two blocks may be exchanged where each key of the first is greater than each of the second. -/
theorem Fil.swap {a b : List Int} (h : ∀ x ∈ a, ∀ y ∈ b, key x ≠ key y) : Fil key (a ++ b) (b ++ a) := fun c => by
  rw [List.filter_append, List.filter_append]
  by_cases e : ∃ x ∈ a, key x = c
  · obtain ⟨x, hx, hc⟩ := e
    have : b.filter (fun y => decide (key y = c)) = [] := by
      rw [List.filter_eq_nil_iff]
      intro y hy
      have := h x hx y hy
      simp
      intro e; exact this (hc.trans e.symm)
    rw [this]; simp
  · have : a.filter (fun y => decide (key y = c)) = [] := by
      rw [List.filter_eq_nil_iff]
      intro y hy
      simp
      intro e'; exact e ⟨y, hy, e'⟩
    rw [this]; simp
theorem stab_uniq : ∀ (l1 l2 : List Int), Srt key l1 → Srt key l2 → Fil key l1 l2 → l1 = l2
  | [], l2, _, _, h => by
    have := h.length
    simp at this
    exact this.symm
  | x :: t, [], _, _, h => by have := h.length; simp at this
  | x :: t, y :: u, h1, h2, h => by
    have hx : x ∈ y :: u := (h.mem x).2 (by simp)
    have hy : y ∈ x :: t := (h.mem y).1 (by simp)
    have k1 : key y ≤ key x := by
      rcases List.mem_cons.1 hx with rfl | hx
      · exact Int.le_refl _
      · exact (List.pairwise_cons.1 h2).1 x hx
    have k2 : key x ≤ key y := by
      rcases List.mem_cons.1 hy with rfl | hy
      · exact Int.le_refl _
      · exact (List.pairwise_cons.1 h1).1 y hy
    have ke : key y = key x := by omega
    have h0 := h (key x)
    rw [List.filter_cons_of_pos (by simpa using ke), List.filter_cons_of_pos (by simp)] at h0
    obtain ⟨rfl, _⟩ := List.cons.inj h0
    have := stab_uniq t u (List.pairwise_cons.1 h1).2 (List.pairwise_cons.1 h2).2 (fun c => by
      have := h c
      by_cases e : key y = c
      · rw [List.filter_cons_of_pos (by simpa using e), List.filter_cons_of_pos (by simpa using e)] at this
        exact (List.cons.inj this).2
      · rw [List.filter_cons_of_neg (by simpa using e), List.filter_cons_of_neg (by simpa using e)] at this
        exact this)
    rw [this]
/-- The insertion's end. -/
theorem Srt.insert {L R : List Int} {x : Int} (h : Srt key (L ++ R)) (hl : ∀ y ∈ L, key y ≤ key x) (hr : ∀ r ∈ R, key x < key r) : Srt key (L ++ x :: R) := by
  unfold Srt at *
  rw [List.pairwise_append] at h ⊢
  obtain ⟨h1, h2, h3⟩ := h
  refine ⟨h1, List.pairwise_cons.2 ⟨fun r hr' => by have := hr r hr'; omega, h2⟩, fun a ha b hb => ?_⟩
  rcases List.mem_cons.1 hb with rfl | hb
  · exact hl a ha
  · exact h3 a ha b hb
theorem Fil.insert {L R : List Int} {x : Int} (hr : ∀ r ∈ R, key x < key r) : Fil key (L ++ R ++ [x]) (L ++ x :: R) := by
  rw [List.append_assoc]
  refine (Fil.refl L).append ?_
  exact Fil.swap (a := R) (b := [x]) (fun r hr' y hy => by simp at hy; subst hy; have := hr r hr'; omega)
theorem Srt.le_last {L : List Int} {y : Int} {R : List Int} (h : Srt key ((L ++ [y]) ++ R)) : ∀ z ∈ L ++ [y], key z ≤ key y := by
  unfold Srt at h
  rw [List.pairwise_append] at h
  have h1 := h.1
  rw [List.pairwise_append] at h1
  intro z hz
  rcases List.mem_append.1 hz with hz | hz
  · exact h1.2.2 z hz y (by simp)
  · simp at hz; subst hz; exact Int.le_refl _
end Go.Proofs.YtamekpldmplenaaDoor
