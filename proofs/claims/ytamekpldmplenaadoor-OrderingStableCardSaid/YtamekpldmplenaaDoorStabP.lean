/- Around a run: how a text and its canonical order are cut. -/
import Derived.Test.YtamekpldmplenaaDoorKeepP
namespace Go.Proofs.YtamekpldmplenaaDoor
variable {f : Int → Int}

theorem F0.cut_any : ∀ (d : Nat) (A B ys : List Int) (z : Int), A.length ≤ d → F0 f (A ++ z :: B) ys → f z = 0 → ∃ A' B', ys = A' ++ z :: B' ∧ F0 f A A' ∧ F0 f B B'
  | 0, A, B, ys, z, hd, h, hz => by
    obtain rfl := List.eq_nil_of_length_eq_zero (Nat.le_zero.1 hd)
    obtain ⟨N', t', e, _, h1, h2⟩ := F0.cut (N := []) h (by simp) hz
    exact ⟨N', t', e, h1, h2⟩
  | d + 1, A, B, ys, z, hd, h, hz => by
    rcases first_zero (f := f) A with hn | ⟨N, z0, t, rfl, hN, h0⟩
    · obtain ⟨N', t', e, _, h1, h2⟩ := F0.cut h hn hz
      exact ⟨N', t', e, h1, h2⟩
    · obtain ⟨N', t', rfl, _, h1, h2⟩ := F0.cut (t := t ++ z :: B) (by simpa using h) hN h0
      obtain ⟨A'', B', rfl, h3, h4⟩ := F0.cut_any d t B t' z (by simp at hd; omega) h2 hz
      exact ⟨N' ++ z0 :: A'', B', by simp, h1.append ((F0.refl [z0]).append h3), h4⟩

/-- What stands around a run. -/
structure Around (f : Int → Int) (text : List Int) (lo hi : Nat) (P N S : List Int) : Prop where
  eq : text = P ++ N ++ S
  lo : lo = P.length
  hi : hi = P.length + N.length
  ne : N ≠ []
  non : ∀ x ∈ N, f x ≠ 0
  left : P = [] ∨ ∃ P0 z, P = P0 ++ [z] ∧ f z = 0
  right : S = [] ∨ ∃ z S0, S = z :: S0 ∧ f z = 0

theorem around_go : ∀ (d : Nat) (Pre t : List Int), t.length ≤ d → ((Pre = [] ∨ ∃ P0 z, Pre = P0 ++ [z] ∧ f z = 0) ∨ ∀ y, t.head? = some y → f y = 0) →
    ∀ r ∈ runsGo f t Pre.length none, ∃ (lo hi : Nat) (P N S : List Int), r = ⟨lo, hi⟩ ∧ Around f (Pre ++ t) lo hi P N S
  | 0, Pre, t, hd, hp, r, hr => by
    obtain rfl := List.eq_nil_of_length_eq_zero (Nat.le_zero.1 hd)
    simp [runsGo] at hr
  | d + 1, Pre, t, hd, hp, r, hr => by
    rcases runsGo_none f t Pre.length with ⟨_, h2⟩ | ⟨Z, N, t', e, h1, h2, h3, h4, h5⟩
    · rw [h2] at hr; simp at hr
    · have hN : 0 < N.length := List.length_pos_iff.2 h2
      rw [h5] at hr
      rcases List.mem_cons.1 hr with rfl | hr
      · refine ⟨_, _, Pre ++ Z, N, t', rfl, by rw [e]; simp, by simp, by simp, h2, h3, ?_, ?_⟩
        · rcases List.eq_nil_or_concat Z with rfl | ⟨Z0, z, rfl⟩
          · rcases hp with hp | hp
            · simpa using hp
            · cases N with
              | nil => exact absurd rfl h2
              | cons y N => exact absurd (hp y (by rw [e]; rfl)) (h3 y (by simp))
          · exact .inr ⟨Pre ++ Z0, z, by simp, h1 z (by simp)⟩
        · cases t' with
          | nil => exact .inl rfl
          | cons y t' => exact .inr ⟨y, t', rfl, h4 y rfl⟩
      · have hl : Pre.length + Z.length + N.length = (Pre ++ Z ++ N).length := by simp; omega
        rw [hl] at hr
        obtain ⟨lo, hi, P, N2, S, e2, h6⟩ := around_go d (Pre ++ Z ++ N) t' (by have := congrArg List.length e; simp at this; omega) (.inr h4) r hr
        exact ⟨lo, hi, P, N2, S, e2, by rw [e]; simpa using h6⟩
theorem around {text : List Int} {r : Rg} (h : r ∈ runsF f text) : ∃ (lo hi : Nat) (P N S : List Int), r = ⟨lo, hi⟩ ∧ Around f text lo hi P N S := by
  have := around_go (f := f) text.length [] text (Nat.le_refl _) (.inl (.inl rfl)) r h
  simpa using this

/-- The same run's part of the canonical order. -/
theorem Around.part {text ys P N S : List Int} {lo hi : Nat} (h : Around f text lo hi P N S) (hs : F0 f text ys ∧ Ord f ys) : (text.drop lo).take (hi - lo) = N ∧ F0 f N ((ys.drop lo).take (hi - lo)) ∧ Ord f ((ys.drop lo).take (hi - lo)) := by
  obtain ⟨rfl, rfl, rfl, _, _, hl, hr⟩ := h
  have e1 : P.length + N.length - P.length = N.length := by omega
  rw [e1]
  refine ⟨by simp, ?_⟩
  have key : ∃ P' N' S', ys = P' ++ N' ++ S' ∧ P'.length = P.length ∧ F0 f N N' := by
    have right : ∀ zs, F0 f (N ++ S) zs → ∃ N' S', zs = N' ++ S' ∧ F0 f N N' := by
      intro zs hz
      rcases hr with rfl | ⟨z, S0, rfl, h0⟩
      · exact ⟨zs, [], by simp, by simpa using hz⟩
      · obtain ⟨N', S', e, k1, _⟩ := F0.cut_any N.length N S0 zs z (Nat.le_refl _) hz h0
        exact ⟨N', z :: S', e, k1⟩
    rcases hl with rfl | ⟨P0, z, rfl, h0⟩
    · obtain ⟨N', S', e, k⟩ := right ys (by simpa using hs.1)
      exact ⟨[], N', S', by simpa using e, rfl, k⟩
    · obtain ⟨A', B', e, k1, k2⟩ := F0.cut_any P0.length P0 (N ++ S) ys z (Nat.le_refl _) (by simpa using hs.1) h0
      obtain ⟨N', S', e', k⟩ := right B' k2
      exact ⟨A' ++ [z], N', S', by rw [e, e']; simp, by simp [k1.length], k⟩
  obtain ⟨P', N', S', rfl, hpl, k⟩ := key
  have e2 : ((P' ++ N' ++ S').drop P.length).take N.length = N' := by
    rw [← hpl, List.append_assoc, List.drop_left, ← k.length, List.take_left]
  rw [e2]
  refine ⟨k, ?_⟩
  have := hs.2
  rw [List.append_assoc] at this
  exact (Ord.suf_ this).pre_
theorem same_class {N N' : List Int} (h : F0 f N N') (hn : ∀ x ∈ N, f x ≠ 0) (q : Int) : N'.filter (fun x => f x == q) = N.filter (fun x => f x == q) := by
  have e : ∀ l : List Int, (∀ x ∈ l, f x ≠ 0) → l.filter (fun x => f x == q) = l.filter (fun x => decide (f x = 0 ∨ f x = q)) := fun l hl => by
    apply List.filter_congr
    intro x hx
    have := hl x hx
    by_cases c : f x = q
    · simp [c]
    · simp [c, this]
  rw [e N hn, e N' (fun x hx => hn x ((h.mem x).1 hx)), h q]

theorem runs_low : ∀ (t : List Int) (p : Nat) (r : Rg), r ∈ runsGo f t p none → (p : Int) ≤ r.lo := fun t p r h => by
  obtain ⟨s, q, rfl, h1, _⟩ := runsGo_mem f t.length t p (Nat.le_refl _) r h
  show (p : Int) ≤ (s : Int); omega
theorem runs_apart : ∀ (d : Nat) (t : List Int) (p i : Nat) (r r' : Rg), t.length ≤ d → (runsGo f t p none)[i]? = some r → (runsGo f t p none)[i + 1]? = some r' → r.hi < r'.lo
  | 0, t, p, i, r, r', hd, h1, _ => by
    obtain rfl := List.eq_nil_of_length_eq_zero (Nat.le_zero.1 hd)
    simp [runsGo] at h1
  | d + 1, t, p, i, r, r', hd, h1, h2 => by
    rcases runsGo_none f t p with ⟨_, k2⟩ | ⟨Z, N, t', e, _, k2, _, k4, k5⟩
    · rw [k2] at h1; simp at h1
    · have hN : 0 < N.length := List.length_pos_iff.2 k2
      have hl := congrArg List.length e
      simp at hl
      rw [k5] at h1 h2
      cases i with
      | zero =>
        simp at h1 h2
        subst h1
        cases t' with
        | nil => simp [runsGo] at h2
        | cons y t' =>
          have hy := k4 y rfl
          have e3 : runsGo f (y :: t') (p + Z.length + N.length) none = runsGo f t' (p + Z.length + N.length + 1) none := by simp [runsGo, hy]
          rw [e3] at h2
          have := runs_low t' _ r' (List.mem_of_getElem? h2)
          show ((p + Z.length + N.length : Nat) : Int) < r'.lo
          omega
      | succ i =>
        simp at h1 h2
        exact runs_apart d t' _ i r r' (by omega) h1 h2
end Go.Proofs.YtamekpldmplenaaDoor
