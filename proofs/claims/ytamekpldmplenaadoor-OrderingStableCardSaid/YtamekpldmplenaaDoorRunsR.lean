/- The runs of a text that has one more element. -/
import Derived.Test.YtamekpldmplenaaDoorRunsP
namespace Go.Proofs.YtamekpldmplenaaDoor
/-- Whether a run is open at the end. -/
def opn (f : Int → Int) : List Int → Bool → Bool
  | [], b => b
  | c :: t, _ => opn f t (decide (f c ≠ 0))
theorem opn_snoc (f : Int → Int) (y : Int) : ∀ (t : List Int) (b : Bool), opn f (t ++ [y]) b = decide (f y ≠ 0)
  | [], _ => rfl
  | _ :: t, _ => opn_snoc f y t _
theorem runsGo_zero {f : Int → Int} {c : Int} (h : f c = 0) : ∀ (t : List Int) (p : Nat) (o : Option Nat), runsGo f (t ++ [c]) p o = runsGo f t p o
  | [], p, none => by simp [runsGo, h]
  | [], p, some s => by simp [runsGo, h]
  | d :: t, p, none => by
    by_cases e : f d = 0
    · simp [runsGo, e, runsGo_zero h t]
    · simp [runsGo, e, runsGo_zero h t]
  | d :: t, p, some s => by
    by_cases e : f d = 0
    · simp [runsGo, e, runsGo_zero h t]
    · simp [runsGo, e, runsGo_zero h t]
theorem runsGo_new {f : Int → Int} {c : Int} (h : f c ≠ 0) : ∀ (t : List Int) (p : Nat) (o : Option Nat), opn f t o.isSome = false → runsGo f (t ++ [c]) p o = runsGo f t p o ++ [⟨(p + t.length : Nat), (p + t.length : Nat) + 1⟩]
  | [], p, none, _ => by simp [runsGo, h]
  | [], p, some s, k => by simp [opn] at k
  | d :: t, p, none, k => by
    by_cases e : f d = 0
    · have := runsGo_new h t (p + 1) none (by simpa [opn, e] using k)
      simp only [List.cons_append, runsGo, if_pos e, this, List.length_cons, show p + 1 + t.length = p + (t.length + 1) by omega]
    · have := runsGo_new h t (p + 1) (some p) (by simpa [opn, e] using k)
      simp only [List.cons_append, runsGo, if_neg e, this, List.length_cons, show p + 1 + t.length = p + (t.length + 1) by omega]
  | d :: t, p, some s, k => by
    by_cases e : f d = 0
    · have := runsGo_new h t (p + 1) none (by simpa [opn, e] using k)
      simp only [List.cons_append, runsGo, if_pos e, this, List.length_cons, show p + 1 + t.length = p + (t.length + 1) by omega]
    · have := runsGo_new h t (p + 1) (some s) (by simpa [opn, e] using k)
      simp only [List.cons_append, runsGo, if_neg e, this, List.length_cons, show p + 1 + t.length = p + (t.length + 1) by omega]
theorem runsGo_more {f : Int → Int} {c : Int} (h : f c ≠ 0) : ∀ (t : List Int) (p : Nat) (o : Option Nat), opn f t o.isSome = true → ∃ R lo, runsGo f t p o = R ++ [⟨lo, (p + t.length : Nat)⟩] ∧ runsGo f (t ++ [c]) p o = R ++ [⟨lo, (p + t.length : Nat) + 1⟩]
  | [], p, none, k => by simp [opn] at k
  | [], p, some s, _ => ⟨[], s, by simp [runsGo], by simp [runsGo, h]⟩
  | d :: t, p, none, k => by
    by_cases e : f d = 0
    · obtain ⟨R, lo, h1, h2⟩ := runsGo_more h t (p + 1) none (by simpa [opn, e] using k)
      refine ⟨R, lo, ?_, ?_⟩ <;> simp only [List.cons_append, runsGo, if_pos e, h1, h2, List.length_cons, show p + 1 + t.length = p + (t.length + 1) by omega]
    · obtain ⟨R, lo, h1, h2⟩ := runsGo_more h t (p + 1) (some p) (by simpa [opn, e] using k)
      refine ⟨R, lo, ?_, ?_⟩ <;> simp only [List.cons_append, runsGo, if_neg e, h1, h2, List.length_cons, show p + 1 + t.length = p + (t.length + 1) by omega]
  | d :: t, p, some s, k => by
    by_cases e : f d = 0
    · obtain ⟨R, lo, h1, h2⟩ := runsGo_more h t (p + 1) none (by simpa [opn, e] using k)
      refine ⟨⟨s, p⟩ :: R, lo, ?_, ?_⟩ <;> simp only [List.cons_append, runsGo, if_pos e, h1, h2, List.length_cons, show p + 1 + t.length = p + (t.length + 1) by omega]
    · obtain ⟨R, lo, h1, h2⟩ := runsGo_more h t (p + 1) (some s) (by simpa [opn, e] using k)
      refine ⟨R, lo, ?_, ?_⟩ <;> simp only [List.cons_append, runsGo, if_neg e, h1, h2, List.length_cons, show p + 1 + t.length = p + (t.length + 1) by omega]

theorem take_opn {f : Int → Int} {text : List Int} {k : Nat} {y : Int} (h : text[k]? = some y) : opn f (text.take (k + 1)) false = decide (f y ≠ 0) := by
  rw [List.take_add_one, h]; exact opn_snoc f y _ _
theorem runsF_zero {f : Int → Int} {text : List Int} {k : Nat} {x : Int} (hx : text[k]? = some x) (h : f x = 0) : runsF f (text.take (k + 1)) = runsF f (text.take k) := by
  rw [List.take_add_one, hx]; exact runsGo_zero h _ _ _
theorem runsF_new {f : Int → Int} {text : List Int} {k : Nat} {x : Int} (hx : text[k]? = some x) (h : f x ≠ 0) (ho : opn f (text.take k) false = false) : runsF f (text.take (k + 1)) = runsF f (text.take k) ++ [⟨(k : Nat), (k : Nat) + 1⟩] := by
  have hk : (text.take k).length = k := by have := (List.getElem?_eq_some_iff.1 hx).1; simp; omega
  have := runsGo_new h (text.take k) 0 none ho
  rw [hk, Nat.zero_add] at this
  rw [List.take_add_one, hx]; exact this
theorem runsF_more {f : Int → Int} {text : List Int} {k : Nat} {x : Int} (hx : text[k]? = some x) (h : f x ≠ 0) (ho : opn f (text.take k) false = true) : ∃ R lo, runsF f (text.take k) = R ++ [⟨lo, (k : Nat)⟩] ∧ runsF f (text.take (k + 1)) = R ++ [⟨lo, (k : Nat) + 1⟩] := by
  have hk : (text.take k).length = k := by have := (List.getElem?_eq_some_iff.1 hx).1; simp; omega
  have := runsGo_more h (text.take k) 0 none ho
  rw [hk, Nat.zero_add] at this
  rw [List.take_add_one, hx]; exact this
end Go.Proofs.YtamekpldmplenaaDoor
