import Derived.Test.YtamekpldmplenaaDoorRunsP
import Derived.Test.YtamekpldmplenaaDoorStab
namespace Go.Proofs.YtamekpldmplenaaDoor
/-! Canonical order: what 'sorted run by run' comes to. -/
/-- For each class the starters and the elements of that class stand in their old order. -/
def F0 (f : Int → Int) (xs ys : List Int) : Prop := ∀ c, ys.filter (fun x => decide (f x = 0 ∨ f x = c)) = xs.filter (fun x => decide (f x = 0 ∨ f x = c))
/-- An element that is no starter does not stand behind a greater class. -/
def Ord (f : Int → Int) : List Int → Prop
  | a :: b :: t => (f b ≠ 0 → f a ≤ f b) ∧ Ord f (b :: t)
  | _ => True
variable {f : Int → Int}
theorem F0.refl (xs : List Int) : F0 f xs xs := fun _ => rfl
theorem F0.symm {a b : List Int} (h : F0 f a b) : F0 f b a := fun c => (h c).symm
theorem F0.trans {a b c : List Int} (h : F0 f a b) (k : F0 f b c) : F0 f a c := fun d => (k d).trans (h d)
theorem F0.append {a b a' b' : List Int} (h : F0 f a a') (k : F0 f b b') : F0 f (a ++ b) (a' ++ b') := fun c => by rw [List.filter_append, List.filter_append, h c, k c]
theorem F0.mem {xs ys : List Int} (h : F0 f xs ys) (x : Int) : x ∈ ys ↔ x ∈ xs := by
  have e : x ∈ ys.filter (fun y => decide (f y = 0 ∨ f y = f x)) ↔ x ∈ xs.filter (fun y => decide (f y = 0 ∨ f y = f x)) := by rw [h (f x)]
  simpa using e
theorem F0.perm {xs ys : List Int} (h : F0 f xs ys) : xs.Perm ys := by
  rw [List.perm_iff_count]
  intro a
  have := congrArg (List.count a) (h (f a))
  rw [List.count_filter (by simp), List.count_filter (by simp)] at this
  exact this.symm
theorem F0.length {xs ys : List Int} (h : F0 f xs ys) : ys.length = xs.length := h.perm.length_eq.symm
theorem F0.of_fil {xs ys : List Int} (h : Fil f xs ys) (hn : ∀ x ∈ xs, f x ≠ 0) : F0 f xs ys := fun c => by
  have e : ∀ l : List Int, (∀ x ∈ l, f x ≠ 0) → l.filter (fun x => decide (f x = 0 ∨ f x = c)) = l.filter (fun x => decide (f x = c)) := fun l hl => by
    apply List.filter_congr
    intro x hx
    simp [hl x hx]
  rw [e xs hn, e ys (fun x hx => hn x ((h.mem x).1 hx)), h c]
theorem Ord.tail {a : Int} {t : List Int} (h : Ord f (a :: t)) : Ord f t := by
  cases t with
  | nil => trivial
  | cons b t => exact h.2
theorem Ord.of_srt : ∀ {l : List Int}, Srt f l → Ord f l
  | [], _ => trivial
  | [_], _ => trivial
  | a :: b :: t, h => by
    have h' := List.pairwise_cons.1 h
    exact ⟨fun _ => h'.1 b (by simp), Ord.of_srt h'.2⟩
theorem Ord.of_starters : ∀ {l : List Int}, (∀ x ∈ l, f x = 0) → Ord f l
  | [], _ => trivial
  | [_], _ => trivial
  | a :: b :: t, h => ⟨fun hb => absurd (h b (by simp)) hb, Ord.of_starters (fun x hx => h x (by simp [hx]))⟩
/-- Two ordered pieces, the second empty or begun by what may stand behind the first's last. -/
theorem Ord.append : ∀ {a b : List Int}, Ord f a → Ord f b → (∀ x y, a.getLast? = some x → b.head? = some y → f y ≠ 0 → f x ≤ f y) → Ord f (a ++ b)
  | [], _, _, hb, _ => hb
  | [x], [], _, _, _ => trivial
  | [x], y :: t, _, hb, h => ⟨h x y rfl rfl, hb⟩
  | x :: y :: t, b, ha, hb, h => ⟨ha.1, Ord.append (a := y :: t) ha.2 hb (fun u v hu hv => h u v (by simpa using hu) hv)⟩
theorem Ord.append_starter {a b : List Int} (ha : Ord f a) (hb : Ord f b) (h : ∀ y, b.head? = some y → f y = 0) : Ord f (a ++ b) := ha.append hb (fun _ y _ hy hn => absurd (h y hy) hn)
/-- In the first run the classes ascend. -/
theorem Ord.run_le {y : Int} : ∀ {u : List Int} {x : Int}, Ord f (y :: (u ++ [x])) → (∀ z ∈ u, f z ≠ 0) → f x ≠ 0 → f y ≤ f x
  | [], x, h, _, hx => h.1 hx
  | z :: u, x, h, hu, hx => by
    have h1 := h.1 (hu z (by simp))
    have h2 := Ord.run_le (u := u) (x := x) h.2 (fun z hz => hu z (by simp [hz])) hx
    exact Int.le_trans h1 h2
theorem Ord.pre_ : ∀ {a b : List Int}, Ord f (a ++ b) → Ord f a
  | [], _, _ => trivial
  | [x], _, _ => trivial
  | x :: y :: t, b, h => ⟨h.1, Ord.pre_ (a := y :: t) h.2⟩
theorem Ord.suf_ : ∀ {a b : List Int}, Ord f (a ++ b) → Ord f b
  | [], _, h => h
  | x :: a, b, h => Ord.suf_ (a := a) h.tail
theorem first_of_filter {p : Int → Bool} {l : List Int} {x : Int} {t : List Int} (h : l.filter p = x :: t) : ∃ u v, l = u ++ x :: v ∧ (∀ z ∈ u, p z = false) ∧ p x = true := by
  induction l with
  | nil => simp at h
  | cons a l ih =>
    by_cases hp : p a = true
    · rw [List.filter_cons_of_pos hp] at h
      obtain ⟨rfl, _⟩ := List.cons.inj h
      exact ⟨[], l, rfl, by simp, hp⟩
    · rw [List.filter_cons_of_neg hp] at h
      obtain ⟨u, v, e, h1, h2⟩ := ih h
      exact ⟨a :: u, v, by rw [e]; rfl, fun z hz => (List.mem_cons.1 hz).elim (fun e => by subst e; simpa using hp) (fun hz => h1 z hz), h2⟩
/-- There is but one canonical order. -/
theorem ord_uniq : ∀ (l1 l2 : List Int), Ord f l1 → Ord f l2 → F0 f l1 l2 → l1 = l2
  | [], l2, _, _, h => by have := h.length; simp at this; exact this.symm
  | x :: t, [], _, _, h => by have := h.length; simp at this
  | x :: t, y :: u, h1, h2, h => by
    have key : x = y := by
      have hx := h (f x)
      have hy := h (f y)
      rw [List.filter_cons_of_pos (p := fun z => decide (f z = 0 ∨ f z = f x)) (a := x) (by simp)] at hx
      rw [List.filter_cons_of_pos (p := fun z => decide (f z = 0 ∨ f z = f y)) (a := y) (by simp)] at hy
      by_cases hx0 : f x = 0
      · rw [List.filter_cons_of_pos (by simp [hx0])] at hy
        exact (List.cons.inj hy).1.symm
      · by_cases hy0 : f y = 0
        · rw [List.filter_cons_of_pos (by simp [hy0])] at hx
          exact (List.cons.inj hx).1.symm
        · obtain ⟨p, q, e1, e2, e3⟩ := first_of_filter hx
          obtain ⟨p', q', e1', e2', e3'⟩ := first_of_filter hy.symm
          have k1 : f y ≤ f x := by
            cases p with
            | nil =>
              simp at e1
              obtain ⟨rfl, _⟩ := e1
              exact Int.le_refl _
            | cons z p =>
              simp at e1
              obtain ⟨rfl, rfl⟩ := e1
              have : Ord f ((y :: (p ++ [x])) ++ q) := by simpa using h2
              exact (Ord.pre_ this).run_le (fun z hz => by have := e2 z (by simp [hz]); simp at this; exact this.1) hx0
          have k2 : f x ≤ f y := by
            cases p' with
            | nil =>
              simp at e1'
              obtain ⟨rfl, _⟩ := e1'
              exact Int.le_refl _
            | cons z p =>
              simp at e1'
              obtain ⟨rfl, rfl⟩ := e1'
              have : Ord f ((x :: (p ++ [y])) ++ q') := by simpa using h1
              exact (Ord.pre_ this).run_le (fun z hz => by have := e2' z (by simp [hz]); simp at this; exact this.1) hy0
          have ke : f x = f y := by omega
          rw [List.filter_cons_of_pos (by simp [ke])] at hx
          exact (List.cons.inj hx).1.symm
    subst key
    rw [ord_uniq t u h1.tail h2.tail (fun c => by
      have := h c
      by_cases e : f x = 0 ∨ f x = c
      · rw [List.filter_cons_of_pos (by simpa using e), List.filter_cons_of_pos (by simpa using e)] at this
        exact (List.cons.inj this).2
      · rw [List.filter_cons_of_neg (by simpa using e), List.filter_cons_of_neg (by simpa using e)] at this
        exact this)]

/-! How the runs cut a text. -/
theorem runsGo_some (f : Int → Int) : ∀ (t : List Int) (p s : Nat), ∃ N t', t = N ++ t' ∧ (∀ x ∈ N, f x ≠ 0) ∧ (∀ y, t'.head? = some y → f y = 0) ∧ runsGo f t p (some s) = ⟨s, (p + N.length : Nat)⟩ :: runsGo f t' (p + N.length) none
  | [], p, s => ⟨[], [], rfl, by simp, by simp, by simp [runsGo]⟩
  | c :: t, p, s => by
    by_cases hc : f c = 0
    · exact ⟨[], c :: t, rfl, by simp, by simp [hc], by simp [runsGo, hc]⟩
    · obtain ⟨N, t', e, h1, h2, h3⟩ := runsGo_some f t (p + 1) s
      refine ⟨c :: N, t', by rw [e]; rfl, ?_, h2, ?_⟩
      · intro x hx
        rcases List.mem_cons.1 hx with rfl | hx
        · exact hc
        · exact h1 x hx
      · simp only [runsGo, if_neg hc, h3, List.length_cons]
        rw [show p + 1 + N.length = p + (N.length + 1) by omega]
theorem runsGo_none (f : Int → Int) : ∀ (t : List Int) (p : Nat), ((∀ x ∈ t, f x = 0) ∧ runsGo f t p none = []) ∨
    ∃ Z N t', t = Z ++ N ++ t' ∧ (∀ x ∈ Z, f x = 0) ∧ N ≠ [] ∧ (∀ x ∈ N, f x ≠ 0) ∧ (∀ y, t'.head? = some y → f y = 0) ∧ runsGo f t p none = ⟨(p + Z.length : Nat), (p + Z.length + N.length : Nat)⟩ :: runsGo f t' (p + Z.length + N.length) none
  | [], p => .inl ⟨by simp, rfl⟩
  | c :: t, p => by
    by_cases hc : f c = 0
    · rcases runsGo_none f t (p + 1) with ⟨h1, h2⟩ | ⟨Z, N, t', e, h1, h2, h3, h4, h5⟩
      · exact .inl ⟨fun x hx => (List.mem_cons.1 hx).elim (fun e => by subst e; exact hc) (fun hx => h1 x hx), by simp [runsGo, hc, h2]⟩
      · refine .inr ⟨c :: Z, N, t', by rw [e]; simp, ?_, h2, h3, h4, ?_⟩
        · intro x hx
          rcases List.mem_cons.1 hx with rfl | hx
          · exact hc
          · exact h1 x hx
        · simp only [runsGo, if_pos hc, h5, List.length_cons]
          rw [show p + 1 + Z.length = p + (Z.length + 1) by omega]
    · obtain ⟨N, t', e, h1, h2, h3⟩ := runsGo_some f t (p + 1) p
      refine .inr ⟨[], c :: N, t', by rw [e]; simp, by simp, by simp, ?_, h2, ?_⟩
      · intro x hx
        rcases List.mem_cons.1 hx with rfl | hx
        · exact hc
        · exact h1 x hx
      · simp only [runsGo, if_neg hc, h3, List.length_cons, List.length_nil]
        rw [show p + 1 + N.length = p + 0 + (N.length + 1) by omega]; simp
theorem runsGo_mem (f : Int → Int) : ∀ (d : Nat) (t : List Int) (p : Nat), t.length ≤ d → ∀ x ∈ runsGo f t p none, ∃ s q : Nat, x = ⟨s, q⟩ ∧ p ≤ s ∧ s < q ∧ q ≤ p + t.length
  | 0, t, p, h, x, hx => by
    obtain rfl := List.eq_nil_of_length_eq_zero (Nat.le_zero.1 h)
    simp [runsGo] at hx
  | d + 1, t, p, h, x, hx => by
    rcases runsGo_none f t p with ⟨h1, h2⟩ | ⟨Z, N, t', e, h1, h2, h3, h4, h5⟩
    · rw [h2] at hx; simp at hx
    · have hN : 0 < N.length := List.length_pos_iff.2 h2
      have hl := congrArg List.length e
      simp at hl
      rw [h5] at hx
      rcases List.mem_cons.1 hx with rfl | hx
      · exact ⟨_, _, rfl, by omega, by omega, by omega⟩
      · obtain ⟨s, q, e', h6, h7, h8⟩ := runsGo_mem f d t' _ (by omega) x hx
        exact ⟨s, q, e', by omega, h7, by omega⟩
theorem runsF_mem {f : Int → Int} {text : List Int} {x : Rg} (h : x ∈ runsF f text) : ∃ s q : Nat, x = ⟨s, q⟩ ∧ s < q ∧ q ≤ text.length := by
  obtain ⟨s, q, e, _, h1, h2⟩ := runsGo_mem f text.length text 0 (Nat.le_refl _) x h
  exact ⟨s, q, e, h1, by omega⟩
end Go.Proofs.YtamekpldmplenaaDoor
