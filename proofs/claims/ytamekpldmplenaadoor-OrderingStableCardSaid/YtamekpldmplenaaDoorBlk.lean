import Derived.Test.YtamekpldmplenaaDoorStab
namespace Go.Proofs.YtamekpldmplenaaDoor
variable {key : Int → Int}
/-- The i-th block of b elements. -/
def blk (l : List Int) (b i : Nat) : List Int := (l.drop (i * b)).take b
theorem take_drop_ext {l l' : List Int} {d t : Nat} (h : ∀ i, d ≤ i → i < d + t → l[i]? = l'[i]?) : (l.drop d).take t = (l'.drop d).take t := by
  apply List.ext_getElem?
  intro i
  rw [List.getElem?_take, List.getElem?_take]
  split
  · rw [List.getElem?_drop, List.getElem?_drop]; exact h _ (by omega) (by omega)
  · rfl
theorem mid_same {P ys zs S : List Int} (h : ys.length = zs.length) {i : Nat} (hi : i < P.length ∨ P.length + zs.length ≤ i) : (P ++ ys ++ S)[i]? = (P ++ zs ++ S)[i]? := by
  rw [List.append_assoc, List.append_assoc]
  rcases hi with hi | hi
  · rw [List.getElem?_append_left hi, List.getElem?_append_left hi]
  · rw [List.getElem?_append_right (by omega), List.getElem?_append_right (by omega), List.getElem?_append_right (by omega), List.getElem?_append_right (by omega), h]
theorem cut3 (l : List Int) (a b : Nat) (h : b ≤ l.length) (hab : a ≤ b) : l = l.take a ++ (l.drop a).take (b - a) ++ l.drop b := by
  have h1 := List.take_append_drop a l
  have h2 := List.take_append_drop (b - a) (l.drop a)
  rw [List.drop_drop, show a + (b - a) = b by omega] at h2
  rw [List.append_assoc, h2, h1]
theorem blk_keep {P ys zs S : List Int} {b i : Nat} (h : ys.length = zs.length) (hi : (i + 1) * b ≤ P.length ∨ P.length + zs.length ≤ i * b) : blk (P ++ ys ++ S) b i = blk (P ++ zs ++ S) b i := by
  refine take_drop_ext fun j h1 h2 => mid_same h ?_
  rcases hi with hi | hi
  · rw [Nat.succ_mul] at hi; omega
  · omega
theorem blk_at {P ys S : List Int} {b i : Nat} (h1 : P.length = i * b) (h2 : ys.length = b ∨ (ys.length ≤ b ∧ S = [])) : blk (P ++ ys ++ S) b i = ys := by
  unfold blk
  rw [List.append_assoc, ← h1, List.drop_left]
  rcases h2 with h2 | ⟨h2, rfl⟩
  · rw [← h2]; exact List.take_left ..
  · rw [List.append_nil]; exact List.take_of_length_le h2
theorem blk_out {l : List Int} {b i : Nat} (h : l.length ≤ i * b) : blk l b i = [] := by
  unfold blk; rw [List.drop_of_length_le h]; simp
theorem Fil.mid {P X ys S xs : List Int} (h : Fil key xs (P ++ X ++ S)) (k : Fil key X ys) : Fil key xs (P ++ ys ++ S) :=
  h.trans (((Fil.refl P).append k).append (Fil.refl S))
end Go.Proofs.YtamekpldmplenaaDoor
