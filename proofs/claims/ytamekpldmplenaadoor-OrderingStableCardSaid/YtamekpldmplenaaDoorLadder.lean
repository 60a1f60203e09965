import Derived.Test.YtamekpldmplenaaDoorOrdP
namespace Go.Proofs.YtamekpldmplenaaDoor
/-! What has been sorted when the runs 'pre' are done. -/
def Prog (f : Int → Int) (text : List Int) (pre : List Rg) (cur : List Int) : Prop :=
  pre <+: runsF f text → ∃ T1 t C, text = T1 ++ t ∧ cur = C ++ t ∧ C.length = T1.length ∧ F0 f T1 C ∧ Ord f C ∧ pre ++ runsGo f t T1.length none = runsF f text ∧ (C = [] ∨ ∀ y, t.head? = some y → f y = 0)
theorem prog_start (f : Int → Int) (text : List Int) : Prog f text [] text := fun _ => ⟨[], text, [], rfl, rfl, rfl, F0.refl _, trivial, rfl, .inl rfl⟩
theorem prog_step {f : Int → Int} (hf0 : ∀ c, 0 ≤ f c) {text : List Int} {pre : List Rg} {cur ys : List Int} {s p : Nat} (h : Prog f text pre cur) (hy : Fil f ((cur.drop s).take (p - s)) ys) (hs : Srt f ys) :
    Prog f text (pre ++ [⟨s, p⟩]) (cur.take s ++ ys ++ cur.drop p) := by
  intro hp
  obtain ⟨T1, t, C, e1, e2, e3, h1, h2, h3, h4⟩ := h ((List.prefix_append _ _).trans hp)
  obtain ⟨more, hm⟩ := hp
  rw [← h3, List.append_assoc] at hm
  have hm := List.append_cancel_left hm
  rcases runsGo_none f t T1.length with ⟨_, k2⟩ | ⟨Z, N, t', k1, k2, k3, k4, k5, k6⟩
  · rw [k2] at hm; simp at hm
  · rw [k6] at hm
    simp only [List.singleton_append, List.cons.injEq, Rg.mk.injEq] at hm
    obtain ⟨⟨m1, m2⟩, m3⟩ := hm
    have es : s = C.length + Z.length := by omega
    have ep : p = C.length + Z.length + N.length := by omega
    have hc : cur = (C ++ Z) ++ N ++ t' := by rw [e2, k1]; simp
    have c1 : cur.take s = C ++ Z := by rw [hc, List.append_assoc, es, ← List.length_append, List.take_left]
    have c2 : (cur.drop s).take (p - s) = N := by
      rw [hc, List.append_assoc, es, ← List.length_append, List.drop_left, show p - (C ++ Z).length = N.length by rw [List.length_append]; omega, List.take_left]
    have c3 : cur.drop p = t' := by rw [hc, ep, ← List.length_append, ← List.length_append, List.drop_left]
    rw [c2] at hy
    rw [c1, c3]
    have hN : ∀ y, N.head? = some y → f y ≠ 0 := fun y hy => k4 y (List.mem_of_mem_head? hy)
    have hcz : Ord f (C ++ Z) := h2.append_starter (Ord.of_starters k2) (fun y hy => k2 y (List.mem_of_mem_head? hy))
    refine ⟨T1 ++ Z ++ N, t', C ++ Z ++ ys, by rw [e1, k1]; simp, rfl, by have := hy.length; simp; omega, ?_, ?_, ?_, .inr k5⟩
    · exact (h1.append (F0.refl Z)).append (F0.of_fil hy k4)
    · refine hcz.append (Ord.of_srt hs) (fun x y hx hy' hny => ?_)
      rcases List.eq_nil_or_concat Z with rfl | ⟨Z', z, rfl⟩
      · rcases h4 with rfl | h4
        · simp at hx
        · cases N with
          | nil => exact absurd rfl k3
          | cons a N => exact absurd (h4 a (by rw [k1]; rfl)) (k4 a (by simp))
      · rw [List.concat_eq_append, ← List.append_assoc, List.getLast?_concat] at hx
        cases hx
        have := k2 x (by simp)
        have := hf0 y
        omega
    · have : (T1 ++ Z ++ N).length = T1.length + Z.length + N.length := by simp; omega
      rw [← h3, k6, ← m1, ← m2, this]
      simp
theorem prog_end {f : Int → Int} {text : List Int} {pre : List Rg} {cur : List Int} (h : Prog f text pre cur) (hp : pre = runsF f text) : F0 f text cur ∧ Ord f cur := by
  obtain ⟨T1, t, C, e1, e2, e3, h1, h2, h3, h4⟩ := h (by rw [hp]; exact List.prefix_refl _)
  have hn : runsGo f t T1.length none = [] := by
    rw [hp] at h3
    exact List.append_right_eq_self.1 h3
  rcases runsGo_none f t T1.length with ⟨k1, _⟩ | ⟨Z, N, t', k1, k2, k3, k4, k5, k6⟩
  · rw [e1, e2]
    exact ⟨h1.append (F0.refl t), h2.append_starter (Ord.of_starters k1) (fun y hy => k1 y (List.mem_of_mem_head? hy))⟩
  · rw [k6] at hn; cases hn
end Go.Proofs.YtamekpldmplenaaDoor
