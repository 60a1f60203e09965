/- Appending a readable slice of numbers to a row that is owned. -/
import Derived.Test.YtamekpldmplenaaDoorApp
import Derived.Laws.OwnMore
namespace Go.Proofs.YtamekpldmplenaaDoor
open Go.RowKit Go.Shelf

theorem run_append_none_any {P : Program} (w : World) (base : Nat) (t ty e : TypeId) (i : TypeInfo) (size : Nat) (ht : P.underlying t = some (.slice e)) (hi : P.info? e = some i)
    (v : Value) (n : Nat) (xs : List Value) (hown : w.ownsRow base e size v n xs) (c : Nat) :
    (Builtin.append_ #[t, t] ty #[v, .slice none 0 c]).run P w = .ok v w := by
  rcases hown.2 with ⟨rfl, rfl⟩ | ⟨g, cap, cur, rfl, _, _, hnc, _⟩
  · simp [Builtin.append_, run_underlying ht, sizeOf, typeInfo, hi, Builtin.lenOf, Builtin.firstCells]
  · simp [Builtin.append_, run_underlying ht, sizeOf, typeInfo, hi, Builtin.lenOf, Builtin.firstCells, hnc, storeCells]

theorem wpList_append_ints {ops : Array Oper} {rest : List Oper} {o : Oper} {a : Act} {Q : Exit → Act → World → Prop} {w : World} (hgd : o.guard = none) (s x : Operand)
    (ho : o.op = .call { callee := .builtin .append, args := #[s, x], argTypes := #[27, 27] })
    (base : Nat) (v : Value) (n : Nat) (xs : List Int) (hs : a.eval s = v) (hown : w.ownsRow base 3 1 v n (xs.flatMap encI))
    (A : Option Addr) (m c : Nat) (news : List Int) (hx : a.eval x = .slice A m c) (hR : RdI w A m news) (hn : n + m ≤ 1000000000) (hbase : base ≤ w.heap.size)
    (h : ∀ v' w', w'.ownsRow base 3 1 v' (n + m) ((xs ++ news).flatMap encI) → Below base w w' → wpList Tryd.prog ops Q rest (a.put o.dst v') w') :
    wpList Tryd.prog ops Q (o :: rest) a w := by
  obtain ⟨i0, hi, hz0, hz1, hz2⟩ := info_parts infoI
  cases A with
  | none =>
    have hm : m = 0 := by
      rcases Nat.eq_zero_or_pos m with e | e
      · exact e
      · obtain ⟨b, o, e⟩ := hR.addr e; cases e
    subst hm
    have hnews : news = [] := List.eq_nil_of_length_eq_zero hR.len
    subst hnews
    have hc : ∀ c, (Value.slice none 0 c) = .slice none 0 c := fun _ => rfl
    refine wpList_plain hgd fun K hK => ?_
    have hr := run_append_none_any (P := Tryd.prog) w base 27 o.type 3 i0 1 Tryd.underlying27 hi v n _ hown c
    unfold Oper.wp execOp
    simp only [ho, resolve, invoke, builtin, Sem.run_bind, Sem.run_pure, Result.andThen_ok, List.map_toArray, List.map_cons, List.map_nil, hs, hx, hr]
    exact hK _ _ (h v w (by simpa using hown) (Below.refl _ _))
  | some ad =>
    have hl : (news.flatMap encI).length = m * 1 := by rw [flat_len encI_len, hR.len]
    refine wpList_append_own_at w hgd s x 27 ho base 3 i0 (.int .i64 0) 1 8 Tryd.underlying27 hi hz0 hz1 hz2 rfl (by decide) v n _ hs hown ad m c (news.flatMap encI) hx hl ?_ (fun u hu => flat_one hu) (by simp only [maxLen]; omega) (by omega) hbase ?_
    · intro j u hu
      have hj : j < news.length := by have := (List.getElem?_eq_some_iff.1 hu).1; rw [flat_len encI_len] at this; omega
      obtain ⟨b, off, e, hc⟩ := hR.cells (by have := hR.len; omega)
      cases e
      have e2 := flat_at encI_len news j 0 hj (by omega)
      rw [Nat.mul_one, Nat.add_zero] at e2
      rw [e2] at hu
      have := hc j hj 0 u hu
      rw [Addr.add_lit]
      simpa using this
    · intro v' w' h1 h2 _ _
      exact h v' w' (by rw [List.flatMap_append]; exact h1) ((Below.refl base w).grown h2 hbase (fun r e => (hown.lt r e).1))
end Go.Proofs.YtamekpldmplenaaDoor
