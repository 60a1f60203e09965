/- What canonical order keeps: the starters' places, the counts, the order of neighbours. -/
import Derived.Test.YtamekpldmplenaaDoorOrdP
namespace Go.Proofs.YtamekpldmplenaaDoor
variable {f : Int → Int}

theorem cut_at {p : Int → Prop} {z : Int} : ∀ {a a' b b' : List Int}, (∀ x ∈ a, p x) → (∀ x ∈ a', p x) → ¬ p z → a ++ z :: b = a' ++ z :: b' → a = a' ∧ b = b'
  | [], [], _, _, _, _, _, h => ⟨rfl, (List.cons.inj h).2⟩
  | [], y :: _, _, _, _, h2, hz, h => by
    have e := (List.cons.inj h).1
    exact absurd (e ▸ h2 y (by simp)) hz
  | y :: _, [], _, _, h1, _, hz, h => by
    have e := (List.cons.inj h).1
    exact absurd (e ▸ h1 y (by simp)) hz
  | y :: a, y' :: a', _, _, h1, h2, hz, h => by
    have e := List.cons.inj h
    obtain ⟨e1, e2⟩ := cut_at (fun x hx => h1 x (by simp [hx])) (fun x hx => h2 x (by simp [hx])) hz e.2
    exact ⟨by rw [e.1, e1], e2⟩

theorem first_zero : ∀ xs : List Int, (∀ x ∈ xs, f x ≠ 0) ∨ ∃ N z t, xs = N ++ z :: t ∧ (∀ x ∈ N, f x ≠ 0) ∧ f z = 0
  | [] => .inl (by simp)
  | x :: xs => by
    by_cases h : f x = 0
    · exact .inr ⟨[], x, xs, rfl, by simp, h⟩
    · rcases first_zero xs with k | ⟨N, z, t, rfl, h1, h2⟩
      · exact .inl (fun y hy => (List.mem_cons.1 hy).elim (fun e => by rw [e]; exact h) (k y))
      · exact .inr ⟨x :: N, z, t, rfl, fun y hy => (List.mem_cons.1 hy).elim (fun e => by rw [e]; exact h) (h1 y), h2⟩

theorem F0.cut {N t ys : List Int} {z : Int} (h : F0 f (N ++ z :: t) ys) (hN : ∀ x ∈ N, f x ≠ 0) (hz : f z = 0) : ∃ N' t', ys = N' ++ z :: t' ∧ (∀ x ∈ N', f x ≠ 0) ∧ F0 f N N' ∧ F0 f t t' := by
  rcases first_zero (f := f) ys with hy | ⟨N', z', t', rfl, h1, h2⟩
  · exact absurd hz (hy z ((h.mem z).2 (by simp)))
  · have h0 := h 0
    have e : ∀ l : List Int, (∀ x ∈ l, f x ≠ 0) → l.filter (fun x => decide (f x = 0 ∨ f x = 0)) = [] := fun l hl => List.filter_eq_nil_iff.2 (fun x hx => by simp [hl x hx])
    rw [List.filter_append, List.filter_append, e N hN, e N' h1, List.filter_cons_of_pos (by simp [h2]), List.filter_cons_of_pos (by simp [hz])] at h0
    have hzz : z' = z := (List.cons.inj h0).1
    subst hzz
    have key : ∀ c, N'.filter (fun x => decide (f x = 0 ∨ f x = c)) = N.filter (fun x => decide (f x = 0 ∨ f x = c)) ∧ t'.filter (fun x => decide (f x = 0 ∨ f x = c)) = t.filter (fun x => decide (f x = 0 ∨ f x = c)) := by
      intro c
      have hc := h c
      rw [List.filter_append, List.filter_append, List.filter_cons_of_pos (by simp [h2]), List.filter_cons_of_pos (by simp [hz])] at hc
      exact cut_at (p := fun x => f x ≠ 0) (fun x hx => h1 x ((List.mem_filter.1 hx).1)) (fun x hx => hN x ((List.mem_filter.1 hx).1)) (by simp [hz]) hc
    exact ⟨N', t', rfl, h1, fun c => (key c).1, fun c => (key c).2⟩

theorem F0.places : ∀ (d : Nat) (xs ys : List Int), xs.length ≤ d → F0 f xs ys → ∀ (i : Nat) (x y : Int), xs[i]? = some x → ys[i]? = some y → (f x = 0 ↔ f y = 0) ∧ (f x = 0 → y = x)
  | 0, xs, ys, hd, h, i, x, y, hx, hy => by
    obtain rfl := List.eq_nil_of_length_eq_zero (Nat.le_zero.1 hd)
    simp at hx
  | d + 1, xs, ys, hd, h, i, x, y, hx, hy => by
    rcases first_zero (f := f) xs with hn | ⟨N, z, t, rfl, hN, hz⟩
    · have h1 := hn x (List.mem_of_getElem? hx)
      have h2 := hn y ((h.mem y).1 (List.mem_of_getElem? hy))
      exact ⟨⟨fun e => absurd e h1, fun e => absurd e h2⟩, fun e => absurd e h1⟩
    · obtain ⟨N', t', rfl, hN', k1, k2⟩ := h.cut hN hz
      have hl : N'.length = N.length := k1.length
      by_cases c1 : i < N.length
      · rw [List.getElem?_append_left c1] at hx
        rw [List.getElem?_append_left (by omega)] at hy
        have h1 := hN x (List.mem_of_getElem? hx)
        have h2 := hN' y (List.mem_of_getElem? hy)
        exact ⟨⟨fun e => absurd e h1, fun e => absurd e h2⟩, fun e => absurd e h1⟩
      · rw [List.getElem?_append_right (by omega)] at hx
        rw [List.getElem?_append_right (by omega), hl] at hy
        rcases hq : i - N.length with _ | j
        · rw [hq] at hx hy
          simp at hx hy
          subst hx hy
          exact ⟨Iff.rfl, fun _ => rfl⟩
        · rw [hq] at hx hy
          simp at hx hy
          exact F0.places d t t' (by simp at hd; omega) k2 j x y hx hy
theorem Ord.at : ∀ {ys : List Int} {i : Nat} {a b : Int}, Ord f ys → ys[i]? = some a → ys[i + 1]? = some b → f b ≠ 0 → f a ≤ f b
  | [], _, _, _, _, h, _, _ => by simp at h
  | [_], 0, _, _, _, _, h, _ => by simp at h
  | [_], i + 1, _, _, _, h, _, _ => by simp at h
  | x :: y :: t, 0, a, b, ho, h1, h2, hn => by
    simp at h1 h2
    subst h1 h2
    exact ho.1 hn
  | x :: y :: t, i + 1, a, b, ho, h1, h2, hn => Ord.at (ys := y :: t) (i := i) ho.tail (by simpa using h1) (by simpa using h2) hn
end Go.Proofs.YtamekpldmplenaaDoor
