/- The reference's sort: each code point goes to the end and then left past higher classes. -/
import Derived.Test.YtamekpldmplenaaDoorRefC
import Derived.Test.YtamekpldmplenaaDoorRunsW
namespace Go.Proofs.YtamekpldmplenaaDoor
open Go.RowKit Go.Shelf

/-- Where the new one stands: u before it, v behind it. -/
structure Ins (f : Int → Int) (t : List Int) (x : Int) (u v : List Int) : Prop where
  ord : Ord f (u ++ v)
  f0 : F0 f t (u ++ v)
  hi : ∀ z ∈ v, f x < f z
  pos : v ≠ [] → 0 < f x
theorem ins_start {f : Int → Int} {t o : List Int} {x : Int} (ho : Ord f o) (h0 : F0 f t o) : Ins f t x o [] := ⟨by simpa using ho, by simpa using h0, by simp, by simp⟩
theorem ins_step {f : Int → Int} {t u v : List Int} {x y : Int} (h : Ins f t x (u ++ [y]) v) (h1 : f x < f y) (h2 : 0 < f x) : Ins f t x u (y :: v) :=
  ⟨by simpa using h.ord, by simpa using h.f0, fun z hz => (List.mem_cons.1 hz).elim (fun e => by subst e; exact h1) (h.hi z), fun _ => h2⟩
theorem ins_f0 {f : Int → Int} (hf : ∀ c, 0 ≤ f c) {t u v : List Int} {x : Int} (h : Ins f t x u v) : F0 f (t ++ [x]) (u ++ x :: v) := by
  intro c
  have h0 := h.f0 c
  rw [List.filter_append] at h0 ⊢
  rw [List.filter_append, ← h0, List.append_assoc]
  by_cases e : f x = 0 ∨ f x = c
  · have hv : v.filter (fun z => decide (f z = 0 ∨ f z = c)) = [] := by
      rw [List.filter_eq_nil_iff]
      intro z hz
      have h1 := h.hi z hz
      have h2 := h.pos (List.ne_nil_of_mem hz)
      have h3 := hf x
      simp only [decide_eq_true_eq]
      omega
    rw [List.filter_cons_of_pos (by simpa using e), hv, List.filter_cons_of_pos (by simpa using e)]
    simp
  · rw [List.filter_cons_of_neg (by simpa using e), List.filter_cons_of_neg (by simpa using e)]
    simp
theorem ord_cons {f : Int → Int} {x : Int} {v : List Int} (hv : Ord f v) (h : ∀ z ∈ v, f x < f z) : Ord f (x :: v) := by
  cases v with
  | nil => trivial
  | cons z v => exact Ord.append (a := [x]) (b := z :: v) trivial hv (fun a b ha hb _ => by simp at ha hb; subst ha hb; exact Int.le_of_lt (h _ (by simp)))
theorem ins_end {f : Int → Int} (hf : ∀ c, 0 ≤ f c) {t u v : List Int} {x : Int} (h : Ins f t x u v) (hs : u = [] ∨ f x = 0 ∨ ∃ u' y, u = u' ++ [y] ∧ f y ≤ f x) : F0 f (t ++ [x]) (u ++ x :: v) ∧ Ord f (u ++ x :: v) := by
  refine ⟨ins_f0 hf h, Ord.append h.ord.pre_ (ord_cons h.ord.suf_ h.hi) fun a b ha hb hn => ?_⟩
  simp at hb; subst hb
  rcases hs with rfl | h0 | ⟨u', y, rfl, hy⟩
  · simp at ha
  · exact absurd h0 hn
  · simp at ha; subst ha; exact hy
theorem split_last {u : List Int} {j : Nat} (h : u.length = j + 1) : ∃ u' y, u = u' ++ [y] ∧ u'.length = j := by
  refine ⟨u.dropLast, u.getLast (by intro e; rw [e] at h; simp at h), (List.dropLast_concat_getLast _).symm, by simp [h]⟩
theorem ins_move (u' v : List Int) (y x : Int) (j : Nat) (h : u'.length = j) : ((u' ++ [y] ++ x :: v).set (j + 1) y).set j x = u' ++ x :: y :: v := by
  subst h
  rw [List.append_assoc, List.set_append_right _ _ (by omega), List.set_append_right _ _ (by omega)]
  simp
theorem flat_set (xs : List Int) (i : Nat) (x : Int) : (xs.flatMap encI).set i (.int .i64 x) = (xs.set i x).flatMap encI := by
  have e : ∀ l : List Int, l.flatMap encI = l.map (fun z => Value.int .i64 z) := fun l => by induction l with
    | nil => rfl
    | cons a l ih => rw [List.flatMap_cons, ih]; rfl
  rw [e, e, List.map_set]
end Go.Proofs.YtamekpldmplenaaDoor
