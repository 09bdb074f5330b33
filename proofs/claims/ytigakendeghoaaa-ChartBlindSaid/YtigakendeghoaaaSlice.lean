/-
  Slices that the call owns: what they hold, and append onto them. No condition but sizes.
-/
import Derived.Test.YtigakendeghoaaaRows2
import Derived.Maps.AppendAt
import Derived.Laws.AppendOwnNone
import Derived.Lib.SliceRun
import Derived.Deep.DeepCutAuto
import Derived.Deep.CutBlock
namespace Go.Proofs.Ytigakendeghoaaa
open Go.RowKit

/-- a slice value of n elements, whose cells are 'xs', and the blocks that it owns: none, or one ('ex': the block has just the slice's room) -/
def SlO (ex : Bool) (e size : Nat) (v : Value) (n : Nat) (xs : List Value) (bs : List (Nat × Obj)) : Prop :=
  xs.length = n * size ∧ ((v = .slice none 0 0 ∧ n = 0 ∧ bs = []) ∨
    ∃ g cap cur, v = .slice (some ⟨g, 0, none⟩) n cap ∧ bs = [(g, .cells cur e)] ∧ n ≤ cap ∧ cap ≤ maxLen ∧ (cap * size ≤ cur.size ∧ (ex = true → cur.size = cap * size)) ∧ cur.toList.take (n * size) = xs)
/-- .. one that may be appended to: its block has no more room than it knows of -/
abbrev SlOwn := SlO true
/-- a slice value of n elements that reads as the cells 'xs' -/
def Src (w : World) (size : Nat) (v : Value) (n : Nat) (xs : List Value) : Prop :=
  xs.length = n * size ∧ ((v = .slice none 0 0 ∧ n = 0) ∨ ∃ a c, v = .slice (some a) n c ∧ ∀ j u, xs[j]? = some u → w.cell? (a.add j) = some u)

theorem add_lit0 (g j : Nat) : (⟨g, 0, none⟩ : Addr).add j = ⟨g, j, none⟩ := by
  unfold Addr.add
  split <;> simp_all
theorem add_lit (g o j : Nat) : (⟨g, o, none⟩ : Addr).add j = ⟨g, o + j, none⟩ := by
  unfold Addr.add
  split <;> simp_all

section
variable {ex : Bool} {W w : World} {m : List (Nat × Obj)} {e size n : Nat} {v : Value} {xs : List Value} {bs : List (Nat × Obj)} {P : Program}

theorem SlO.nil (ex : Bool) (e size : Nat) : SlO ex e size (.slice none 0 0) 0 [] [] := ⟨by simp, .inl ⟨rfl, rfl, rfl⟩⟩
theorem SlO.made (ex : Bool) (e size g cap : Nat) (cur : Array Value) (n : Nat) (hn : n ≤ cap) (hc : cap ≤ maxLen) (hs : cur.size = cap * size) :
    SlO ex e size (.slice (some ⟨g, 0, none⟩) n cap) n (cur.toList.take (n * size)) [(g, .cells cur e)] :=
  ⟨by rw [List.length_take, Array.length_toList, hs, Nat.min_eq_left (Nat.mul_le_mul_right _ hn)], .inr ⟨g, cap, cur, rfl, rfl, hn, hc, ⟨by omega, fun _ => hs⟩, rfl⟩⟩
theorem SlO.form (h : SlO ex e size v n xs bs) (hn : 0 < n) : ∃ g cap cur, v = .slice (some ⟨g, 0, none⟩) n cap ∧ bs = [(g, .cells cur e)] ∧ n ≤ cap ∧ cap ≤ maxLen ∧ (cap * size ≤ cur.size ∧ (ex = true → cur.size = cap * size)) ∧ cur.toList.take (n * size) = xs := by
  rcases h.2 with ⟨_, h0, _⟩ | h
  · omega
  · exact h
theorem SlO.len (h : SlO ex e size v n xs bs) : xs.length = n * size := h.1
theorem SlO.slice (h : SlO ex e size v n xs bs) : ∃ A cap, v = .slice A n cap ∧ n ≤ cap ∧ cap ≤ maxLen := by
  rcases h.2 with ⟨rfl, rfl, _⟩ | ⟨g, cap, cur, rfl, _, h1, h2, _⟩
  · exact ⟨none, 0, rfl, Nat.le_refl _, by unfold maxLen; omega⟩
  · exact ⟨_, cap, rfl, h1, h2⟩
/-- the cell at an index -/
theorem SlO.cell (h : SlO ex e size v n xs bs) (hO : Own W (bs ++ m) w) {g cap : Nat} (hv : v = .slice (some ⟨g, 0, none⟩) n cap) {j : Nat} {u : Value} (hj : xs[j]? = some u) : w.cell? ⟨g, j, none⟩ = some u := by
  rcases h.2 with ⟨rfl, _, _⟩ | ⟨g', cap', cur, rfl, rfl, h1, h2, h3, h4⟩
  · cases hv
  · simp only [Value.slice.injEq, Option.some.injEq, Addr.mk.injEq, and_true, true_and] at hv
    obtain ⟨rfl, rfl⟩ := hv
    rw [hO.cell List.mem_cons_self]
    rw [← h4] at hj
    rw [List.getElem?_take] at hj
    split at hj
    · simpa using hj
    · cases hj
theorem SlO.src (h : SlO ex e size v n xs bs) (hO : Own W (bs ++ m) w) : Src w size v n xs := by
  refine ⟨h.1, ?_⟩
  rcases h.2 with ⟨rfl, rfl, _⟩ | ⟨g, cap, cur, rfl, h0, _⟩
  · exact .inl ⟨rfl, rfl⟩
  · refine .inr ⟨_, _, rfl, fun j u hj => ?_⟩
    rw [add_lit0]
    exact h.cell hO rfl hj
theorem SlO.free (h : SlO ex e size v n xs bs) (hO : Own W (bs ++ m) w) {g cap : Nat} (hv : v = .slice (some ⟨g, 0, none⟩) n cap) (j : Nat) : w.frozen? ⟨g, j, none⟩ = false := by
  rcases h.2 with ⟨rfl, _, _⟩ | ⟨g', cap', cur, rfl, rfl, _⟩
  · cases hv
  · simp only [Value.slice.injEq, Option.some.injEq, Addr.mk.injEq, and_true, true_and] at hv
    obtain ⟨rfl, rfl⟩ := hv
    exact hO.frozen List.mem_cons_self j
theorem SlO.lt (h : SlO ex e size v n xs bs) (hO : Own W (bs ++ m) w) {g cap : Nat} (hv : v = .slice (some ⟨g, 0, none⟩) n cap) : g < w.heap.size := by
  rcases h.2 with ⟨rfl, _, _⟩ | ⟨g', cap', cur, rfl, rfl, _⟩
  · cases hv
  · simp only [Value.slice.injEq, Option.some.injEq, Addr.mk.injEq, and_true, true_and] at hv
    obtain ⟨rfl, rfl⟩ := hv
    exact hO.lt List.mem_cons_self
/-- a cell is stored -/
theorem SlO.store (h : SlO ex e size v n xs bs) (hO : Own W (bs ++ m) w) {g cap : Nat} (hv : v = .slice (some ⟨g, 0, none⟩) n cap) {j : Nat} (hj : j < n * size) (u : Value) :
    ∃ bs', SlO ex e size v n (xs.set j u) bs' ∧ Own W (bs' ++ m) (w.setCell ⟨g, j, none⟩ u) := by
  rcases h.2 with ⟨rfl, _, _⟩ | ⟨g', cap', cur, rfl, rfl, h1, h2, h3, h4⟩
  · cases hv
  · simp only [Value.slice.injEq, Option.some.injEq, Addr.mk.injEq, and_true, true_and] at hv
    obtain ⟨rfl, rfl⟩ := hv
    refine ⟨[(g', .cells (cur.setIfInBounds j u) e)], ⟨by rw [List.length_set]; exact h.1, .inr ⟨g', cap', _, rfl, rfl, h1, h2, by rw [Array.size_setIfInBounds]; exact h3, ?_⟩⟩, hO.set j u⟩
    rw [Array.toList_setIfInBounds, List.take_set, h4]
/-- shorter: the same block -/
theorem SlO.shorter (h : SlO ex e size v n xs bs) {g cap k : Nat} (hv : v = .slice (some ⟨g, 0, none⟩) n cap) (hk : k ≤ n) : SlO ex e size (.slice (some ⟨g, 0, none⟩) k cap) k (xs.take (k * size)) bs := by
  rcases h.2 with ⟨rfl, _, _⟩ | ⟨g', cap', cur, rfl, rfl, h1, h2, h3, h4⟩
  · cases hv
  · simp only [Value.slice.injEq, Option.some.injEq, Addr.mk.injEq, and_true, true_and] at hv
    obtain ⟨rfl, rfl⟩ := hv
    have hle : k * size ≤ n * size := Nat.mul_le_mul_right _ hk
    refine ⟨by rw [List.length_take, h.1]; omega, .inr ⟨g', cap', cur, rfl, rfl, by omega, h2, h3, ?_⟩⟩
    rw [← h4, List.take_take, Nat.min_eq_left hle]
/-- what may be appended to may be read and written -/
theorem SlO.weak (h : SlO ex e size v n xs bs) : SlO false e size v n xs bs := by
  refine ⟨h.1, ?_⟩
  rcases h.2 with h0 | ⟨g, cap, cur, hv, hb, h1, h2, h3, h4⟩
  · exact .inl h0
  · exact .inr ⟨g, cap, cur, hv, hb, h1, h2, ⟨h3.1, fun h => by cases h⟩, h4⟩
/-- shorter, and with less room ('s[:k:k]') -/
theorem SlO.cut (h : SlO ex e size v n xs bs) {g cap k : Nat} (hv : v = .slice (some ⟨g, 0, none⟩) n cap) (hk : k ≤ n) : SlO false e size (.slice (some ⟨g, 0, none⟩) k k) k (xs.take (k * size)) bs := by
  rcases h.2 with ⟨rfl, _, _⟩ | ⟨g', cap', cur, rfl, rfl, h1, h2, h3, h4⟩
  · cases hv
  · simp only [Value.slice.injEq, Option.some.injEq, Addr.mk.injEq, and_true, true_and] at hv
    obtain ⟨rfl, rfl⟩ := hv
    have hle : k * size ≤ n * size := Nat.mul_le_mul_right _ hk
    have hle2 : n * size ≤ cap' * size := Nat.mul_le_mul_right _ h1
    refine ⟨by rw [List.length_take, h.1]; omega, .inr ⟨g', k, cur, rfl, rfl, Nat.le_refl _, by omega, ⟨by omega, fun h => by cases h⟩, ?_⟩⟩
    rw [← h4, List.take_take, Nat.min_eq_left hle]
theorem Src.setCell (h : Src w size v n xs) {a : Addr} {u : Value} (ha : ∀ b c, v = .slice (some b) n c → b.block ≠ a.block) : Src (w.setCell a u) size v n xs := by
  refine ⟨h.1, ?_⟩
  rcases h.2 with h0 | ⟨b, c, hv, hc⟩
  · exact .inl h0
  · refine .inr ⟨b, c, hv, fun j x hj => ?_⟩
    rw [World.cell?_of_block (w := w) (Below.heap_setCell w a u _ (by rw [ChangeShapes.block_add]; exact ha b c hv))]
    exact hc j x hj
theorem Src.below (h : Src w size v n xs) {w' : World} (hb : Below w.heap.size w w') : Src w' size v n xs := by
  refine ⟨h.1, ?_⟩
  rcases h.2 with h0 | ⟨b, c, hv, hc⟩
  · exact .inl h0
  · refine .inr ⟨b, c, hv, fun j x hj => ?_⟩
    have := hc j x hj
    rw [hb.cell (World.block_lt_of_cell? w _ this)]
    exact this
theorem Src.ofOwn (h : Src W size v n xs) (hO : Own W m w) : Src w size v n xs := h.below hO.below

/-- APPEND onto a slice that the call owns: what it is then, and what is owned. -/
theorem run_app (t ty e : TypeId) (i : TypeInfo) (z : Value) (size bytes : Nat) (ht : P.underlying t = some (.slice e)) (hi : P.info? e = some i) (hz : i.zero = some z)
    (hsize : i.size = size) (hby : i.bytes = bytes) (hzs : z.cells.size = size) (hsz : 0 < size)
    (hs : SlOwn e size v n xs bs) (hO : Own W (bs ++ m) w) {x : Value} {k : Nat} {news : List Value} (hx : Src w size x k news) (h1 : ∀ u ∈ news, u.oneCell' = true)
    (h63 : n + k ≤ maxLen) (hbytes : (n + k) * bytes ≤ 140737488355328) :
    ∃ v' w' bs', (Builtin.append_ #[t, t] ty #[v, x]).run P w = .ok v' w' ∧ SlOwn e size v' (n + k) (xs ++ news) bs' ∧ Own W (bs' ++ m) w' ∧ (v' = .slice none 0 0 ↔ v = .slice none 0 0 ∧ k = 0) := by
  have hown : w.ownsRow W.heap.size e size v n xs := by
    refine ⟨hs.1, ?_⟩
    rcases hs.2 with ⟨h0, h1, _⟩ | ⟨g, cap, cur, hv, hb, ha, hc, hd, he⟩
    · exact .inl ⟨h0, h1⟩
    · subst hb
      exact .inr ⟨g, cap, cur, hv, hO.ge List.mem_cons_self, hO.get List.mem_cons_self, ha, hc, hd.2 rfl, he⟩
  rcases hx.2 with ⟨rfl, rfl⟩ | ⟨ad, c, rfl, hc⟩
  · have hn : news = [] := List.eq_nil_of_length_eq_zero (by simpa using hx.1)
    subst hn
    refine ⟨v, w, bs, ?_, by simpa using hs, hO, by simp⟩
    obtain ⟨A, cap, rfl, hle, _⟩ := SlO.slice hs
    cases A with
    | none => simp [Builtin.append_, run_underlying ht, sizeOf, typeInfo, hi, Builtin.lenOf, Builtin.firstCells, hle]
    | some a => simp [Builtin.append_, run_underlying ht, sizeOf, typeInfo, hi, Builtin.lenOf, Builtin.firstCells, hle, storeCells]
  · obtain ⟨v', w', hr, h2, h3, h4, h5⟩ := run_append_own_at (P := P) w W.heap.size t ty e i z size bytes ht hi hz hsize hby hzs hsz v n xs hown ad k c news hx.1 hc h1 h63 hbytes hO.size_le
    have hbel : Below W.heap.size W w' := hO.below.grown h3 hO.size_le (fun q hq => (hown.lt q hq).1)
    rcases h2.2 with ⟨hv', hn'⟩ | ⟨g, cap, cur, hv', hge, hg, ha, hb, hcs, htk⟩
    · subst hv'
      have hv0 := (h4.1 rfl).1
      subst hv0
      have hbs : bs = [] := by
        rcases hs.2 with ⟨_, _, h⟩ | ⟨g, cap, cur, hv, _⟩
        · exact h
        · cases hv
      subst hbs
      refine ⟨_, w', [], hr, ⟨h2.1, .inl ⟨rfl, hn', rfl⟩⟩, ⟨hbel, fun p hp => ⟨(hO.at_ p hp).1, ?_⟩, hO.nd⟩, h4⟩
      rw [h3.block p.1 (heap_lt (hO.at_ p hp).2) (by simp [Value.ownBlock])]
      exact (hO.at_ p hp).2
    · subst hv'
      refine ⟨_, w', [(g, .cells cur e)], hr, ⟨h2.1, .inr ⟨g, cap, cur, rfl, rfl, ha, hb, ⟨by omega, fun _ => hcs⟩, htk⟩⟩, ⟨hbel, fun p hp => ?_, ?_⟩, h4⟩
      · rcases List.mem_cons.1 hp with rfl | hp
        · exact ⟨hge, hg⟩
        · have hp' := hO.at_ p (List.mem_append_right _ hp)
          refine ⟨hp'.1, (h3.block p.1 (heap_lt hp'.2) (fun he => ?_)).trans hp'.2⟩
          rcases hs.2 with ⟨rfl, _, _⟩ | ⟨g0, cap0, cur0, rfl, rfl, _⟩
          · simp [Value.ownBlock] at he
          · simp only [Value.ownBlock, Option.some.injEq] at he
            exact Own.ne hO (b' := p.1) (o' := p.2) hp he
      · simp only [List.singleton_append, List.map_cons, List.nodup_cons]
        refine ⟨fun hin => ?_, (hO.dropL).nd⟩
        obtain ⟨p, hp, he⟩ := List.mem_map.1 hin
        have hp' := hO.at_ p (List.mem_append_right _ hp)
        rcases h5 with h5 | h5
        · rcases hs.2 with ⟨rfl, _, _⟩ | ⟨g0, cap0, cur0, rfl, rfl, _⟩
          · simp [Value.ownBlock] at h5
          · simp only [Value.ownBlock, Option.some.injEq] at h5
            exact Own.ne hO (b' := p.1) (o' := p.2) hp (by omega)
        · simp only [Value.ownBlock, Option.some.injEq] at h5
          have := heap_lt hp'.2
          omega
/-- .. at an operation of the walk: 'at_builtin; refine wpList_app rfl _ _ _ rfl rfl rfl ..' -/
theorem wpList_app {ops : Array Oper} {rest : List Oper} {o : Oper} {a : Act} {Q : Exit → Act → World → Prop} (hgd : o.guard = none) (s x : Operand) (t : TypeId)
    (ho : o.op = .call { callee := .builtin .append, args := #[s, x], argTypes := #[t, t] }) {v xv : Value} (hes : a.eval s = v) (hex : a.eval x = xv)
    (e : TypeId) (i : TypeInfo) (z : Value) (size bytes : Nat) (ht : P.underlying t = some (.slice e)) (hi : P.info? e = some i) (hz : i.zero = some z)
    (hsize : i.size = size) (hby : i.bytes = bytes) (hzs : z.cells.size = size) (hsz : 0 < size)
    (hs : SlOwn e size v n xs bs) (hO : Own W (bs ++ m) w) {k : Nat} {news : List Value} (hx : Src w size xv k news) (h1 : ∀ u ∈ news, u.oneCell' = true)
    (h63 : n + k ≤ maxLen) (hbytes : (n + k) * bytes ≤ 140737488355328)
    (h : ∀ v' w' bs', SlOwn e size v' (n + k) (xs ++ news) bs' → Own W (bs' ++ m) w' → (v' = .slice none 0 0 ↔ v = .slice none 0 0 ∧ k = 0) → wpList P ops Q rest (a.put o.dst v') w') :
    wpList P ops Q (o :: rest) a w := by
  obtain ⟨v', w', bs', hr, h2, h3, h4⟩ := run_app (P := P) t o.type e i z size bytes ht hi hz hsize hby hzs hsz hs hO hx h1 h63 hbytes
  refine wpList_plain hgd fun K hK => ?_
  unfold Oper.wp execOp
  simp only [ho, resolve, invoke, builtin, Sem.run_bind, Sem.run_pure, Result.andThen_ok, List.map_toArray, List.map_cons, List.map_nil, hes, hex, hr]
  exact hK _ _ (h v' w' bs' h2 h3 h4)
end
end Go.Proofs.Ytigakendeghoaaa
