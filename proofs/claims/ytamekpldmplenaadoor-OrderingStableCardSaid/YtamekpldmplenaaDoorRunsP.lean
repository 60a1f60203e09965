import Derived.Test.YtamekpldmplenaaDoorBase
namespace Go.Proofs.YtamekpldmplenaaDoor
/-! The runs of a text, as they come from the left: 'o' is where a run that is under way began. -/
def runsGo (f : Int → Int) : List Int → Nat → Option Nat → List Rg
  | [], _, none => []
  | [], p, some s => [⟨s, p⟩]
  | c :: t, p, none => if f c = 0 then runsGo f t (p + 1) none else runsGo f t (p + 1) (some p)
  | c :: t, p, some s => if f c = 0 then ⟨s, p⟩ :: runsGo f t (p + 1) none else runsGo f t (p + 1) (some s)
def runsF (f : Int → Int) (text : List Int) : List Rg := runsGo f text 0 none
/-- The state of the scan at p, begun at s. -/
def runsSt (s p : Nat) : Option Nat := if s = p then none else some s
theorem runsGo_on (f : Int → Int) (c : Int) (t : List Int) (s p : Nat) (hs : s ≤ p) (h : f c ≠ 0) : runsGo f (c :: t) p (runsSt s p) = runsGo f t (p + 1) (runsSt s (p + 1)) := by
  unfold runsSt
  by_cases e : s = p
  · subst e; rw [if_pos rfl, if_neg (by omega)]; simp [runsGo, h]
  · rw [if_neg e, if_neg (by omega)]; simp [runsGo, h]
theorem runsGo_off (f : Int → Int) (c : Int) (t : List Int) (s p : Nat) (h : f c = 0) : runsGo f (c :: t) p (runsSt s p) = (if s = p then [] else [⟨s, p⟩]) ++ runsGo f t (p + 1) none := by
  unfold runsSt
  by_cases e : s = p
  · rw [if_pos e, if_pos e]; simp [runsGo, h]
  · rw [if_neg e, if_neg e]; simp [runsGo, h]
theorem runsGo_end (f : Int → Int) (s p q : Nat) : runsGo f [] p (runsSt s p) = (if s = p then [] else [⟨s, p⟩]) ++ runsGo f [] q none := by
  unfold runsSt
  by_cases e : s = p
  · rw [if_pos e, if_pos e]; simp [runsGo]
  · rw [if_neg e, if_neg e]; simp [runsGo]
theorem runsGo_len (f : Int → Int) : ∀ (t : List Int) (p : Nat) (o : Option Nat), (runsGo f t p o).length ≤ t.length + (if o.isSome then 1 else 0)
  | [], p, none => by simp [runsGo]
  | [], p, some s => by simp [runsGo]
  | c :: t, p, none => by
    have h1 := runsGo_len f t (p + 1) none
    have h2 := runsGo_len f t (p + 1) (some p)
    simp only [runsGo]
    split <;> simp at * <;> omega
  | c :: t, p, some s => by
    have h1 := runsGo_len f t (p + 1) none
    have h2 := runsGo_len f t (p + 1) (some s)
    simp only [runsGo]
    split <;> simp at * <;> omega
theorem runsF_len (f : Int → Int) (text : List Int) : (runsF f text).length ≤ text.length := by
  have := runsGo_len f text 0 none
  simpa [runsF] using this
end Go.Proofs.YtamekpldmplenaaDoor
