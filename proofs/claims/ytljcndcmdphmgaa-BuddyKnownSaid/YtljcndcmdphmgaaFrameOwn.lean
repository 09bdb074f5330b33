/-
  Slices of pages that the call owns; slices.Clone of pages; a page is stored.
-/
import Derived.Test.YtljcndcmdphmgaaFrameSpec
import Derived.Test.YtljcndcmdphmgaaDos
namespace Go.Proofs.Ytljcndcmdphmgaa
open Go.RowKit
theorem page_info : (Try.prog.info? 24).map (fun i => (i.zero, i.size, i.bytes)) = some (some (.agg #[.int .i64 0, .int .i64 0, .int .i64 0]), 3, 24) := by kernel_rfl
theorem flat3_inv : ∀ {l : List Pg} {j : Nat} {u : Int}, (flat3 l)[j]? = some u → ∃ i p, l[i]? = some p ∧ (j = i * 3 ∧ u = p.1 ∨ j = i * 3 + 1 ∧ u = p.2.1 ∨ j = i * 3 + 2 ∧ u = p.2.2)
  | [], j, u, h => by simp [flat3] at h
  | p :: l, 0, u, h => ⟨0, p, rfl, .inl ⟨rfl, by simpa [flat3] using h.symm⟩⟩
  | p :: l, 1, u, h => ⟨0, p, rfl, .inr (.inl ⟨rfl, by simpa [flat3] using h.symm⟩)⟩
  | p :: l, 2, u, h => ⟨0, p, rfl, .inr (.inr ⟨rfl, by simpa [flat3] using h.symm⟩)⟩
  | p :: l, j + 3, u, h => by
    obtain ⟨i, q, hq, hh⟩ := flat3_inv (l := l) (j := j) (u := u) (by simpa [flat3] using h)
    exact ⟨i + 1, q, by simpa using hq, by omega⟩
theorem flat3_append : ∀ (a b : List Pg), flat3 (a ++ b) = flat3 a ++ flat3 b
  | [], b => rfl
  | p :: a, b => by simp [flat3, flat3_append a b]
theorem flat3_set : ∀ (l : List Pg) (j : Nat) (p : Pg), flat3 (l.set j p) = (((flat3 l).set (j * 3) p.1).set (j * 3 + 1) p.2.1).set (j * 3 + 2) p.2.2
  | [], j, p => by simp [flat3]
  | q :: l, 0, p => by simp [flat3]
  | q :: l, j + 1, p => by
    rw [show (j + 1) * 3 = j * 3 + 1 + 1 + 1 from by omega]
    simp [flat3, flat3_set l j p]
/-- a slice of pages that the call owns -/
abbrev PgO (ex : Bool) (v : Value) (L : List Pg) (bs : List (Nat × Obj)) : Prop := SlO ex 24 3 v L.length (ints (flat3 L)) bs
section
variable {W w : World} {m bs : List (Nat × Obj)} {v : Value} {L : List Pg} {ex : Bool}
theorem PgS.src (h : PgS w v L) (hL : 0 < L.length) : Src w 3 v L.length (ints (flat3 L)) := by
  obtain ⟨A, c, rfl, h1, h2, h3⟩ := h
  obtain ⟨g, o, rfl, hA⟩ := h3 hL
  refine ⟨by rw [ints_len, flat3_len], .inr ⟨_, _, rfl, fun j u hj => ?_⟩⟩
  rw [add_lit]
  unfold ints at hj
  rw [List.getElem?_map] at hj
  obtain ⟨n, hn, rfl⟩ := Option.map_eq_some_iff.1 hj
  obtain ⟨i, p, hp, hh⟩ := flat3_inv hn
  obtain ⟨q0, q1, q2⟩ := hA.2 i p hp
  rcases hh with ⟨rfl, rfl⟩ | ⟨rfl, rfl⟩ | ⟨rfl, rfl⟩
  · exact q0
  · rw [← Nat.add_assoc]; exact q1
  · rw [← Nat.add_assoc]; exact q2
theorem PgO.read (hs : PgO ex v L bs) (hO : Own W (bs ++ m) w) : PgS w v L := by
  obtain ⟨A, c, rfl, h1, h2⟩ := hs.slice
  refine ⟨A, c, rfl, h1, h2, fun hp => ?_⟩
  obtain ⟨g, cap, cur, hv, -⟩ := hs.form hp
  refine ⟨g, 0, by cases hv; rfl, hs.lt hO hv, fun j p hj => ?_⟩
  obtain ⟨f0, f1, f2⟩ := flat3_get hj
  rw [Nat.zero_add]
  exact ⟨hs.cell hO hv (ints_get f0), hs.cell hO hv (ints_get f1), hs.cell hO hv (ints_get f2)⟩
set_option maxHeartbeats 400000 in
theorem cloneP_spec (h : Own W m w) (hv : PgS w v L) (hL : 0 < L.length) (hlen : L.length ≤ 60000) :
    Calls Try.prog 50 #[v] w fun e w' => ∃ v' bs', e = .returned v' ∧ PgO true v' L bs' ∧ Own W (bs' ++ m) w' := by
  have hsrc := hv.src hL
  obtain ⟨A, c, rfl, h1, h2, h3⟩ := hv
  obtain ⟨g, o, rfl, hA⟩ := h3 hL
  clear h3
  have he := Lib.run_eql_slice_nil (P := Try.prog) w 22 24 (some ⟨g, o, none⟩) L.length c 0 0 Try.underlying22
  have hn := h.new (.cells #[] 24)
  have hs0 : PgO true (.slice (some ⟨w.heap.size, 0, none⟩) 0 0) [] [(w.heap.size, .cells #[] 24)] := SlO.made true 24 3 w.heap.size 0 #[] 0 (Nat.le_refl _) (by unfold maxLen; omega) rfl
  have hx := hsrc.below (w' := w.alloc (.cells #[] 24)) ((Below.refl _ _).alloc (Nat.le_refl _) _)
  clear hsrc hA
  obtain ⟨N, hN⟩ : ∃ N, L.length = N := ⟨_, rfl⟩
  have HN := Lib.hid hN
  rw [hN] at hx he hlen hL h1 ⊢
  clear hN
  go_enter Try.func50, Try.ntmps50
  go_wp2_with (at_builtin; refine wpList_app_dos rfl _ _ 22 rfl rfl rfl _ page_info Try.underlying22 rfl (by omega) (by omega) (n := 0) (l := []) hs0 hn hx (by omega) ?_; intro v' w' bs' h1 h2; have H1 := Lib.hid h1; clear h1)
  go_ret
  refine ⟨_, bs', rfl, ?_, h2⟩
  have := H1.out
  rw [Nat.zero_add, List.nil_append] at this
  unfold PgO
  rw [HN.out]
  exact this
theorem pg_cells (hs : PgO ex v L bs) (hO : Own W (bs ++ m) w) {g cap n : Nat} (hv : v = .slice (some ⟨g, 0, none⟩) n cap) (hn : n = L.length) {j : Nat} {p : Pg} (hj : L[j]? = some p) :
    w.cell? ⟨g, j * 3, none⟩ = some (.int .i64 p.1) ∧ w.cell? ⟨g, j * 3 + 1, none⟩ = some (.int .i64 p.2.1) ∧ w.cell? ⟨g, j * 3 + 2, none⟩ = some (.int .i64 p.2.2) ∧
      w.frozen? ⟨g, j * 3, none⟩ = false ∧ w.frozen? ⟨g, j * 3 + 1, none⟩ = false ∧ w.frozen? ⟨g, j * 3 + 2, none⟩ = false := by
  subst hn
  obtain ⟨f0, f1, f2⟩ := flat3_get hj
  exact ⟨hs.cell hO hv (ints_get f0), hs.cell hO hv (ints_get f1), hs.cell hO hv (ints_get f2), hs.free hO hv _, hs.free hO hv _, hs.free hO hv _⟩
/-- a page is stored -/
theorem pg_store (hs : PgO ex v L bs) (hO : Own W (bs ++ m) w) {g cap n : Nat} (hv : v = .slice (some ⟨g, 0, none⟩) n cap) (hn : n = L.length) {j : Nat} (hj : j < L.length) (p : Pg) :
    ∃ bs', PgO ex v (L.set j p) bs' ∧ Own W (bs' ++ m) (((w.setCell ⟨g, j * 3, none⟩ (.int .i64 p.1)).setCell ⟨g, j * 3 + 1, none⟩ (.int .i64 p.2.1)).setCell ⟨g, j * 3 + 2, none⟩ (.int .i64 p.2.2)) := by
  subst hn
  obtain ⟨b1, h1, o1⟩ := SlO.store hs hO hv (j := j * 3) (by omega) (.int .i64 p.1)
  obtain ⟨b2, h2, o2⟩ := SlO.store h1 o1 hv (j := j * 3 + 1) (by omega) (.int .i64 p.2.1)
  obtain ⟨b3, h3, o3⟩ := SlO.store h2 o2 hv (j := j * 3 + 2) (by omega) (.int .i64 p.2.2)
  refine ⟨b3, ?_, o3⟩
  unfold PgO
  rw [List.length_set, flat3_set, ← ints_set, ← ints_set, ← ints_set]
  exact h3
end
/-- the table while Set writes it -/
def pgPutK (L : List Pg) (p : Nat) (x : Pg) : Nat → List Pg
  | 0 => L.set p x
  | k + 1 => (pgPutK L p x k).set (p + 1 + k) pgIn
theorem pgPutK_len (L : List Pg) (p : Nat) (x : Pg) : ∀ k, (pgPutK L p x k).length = L.length
  | 0 => by simp [pgPutK]
  | k + 1 => by simp [pgPutK, pgPutK_len L p x k]
theorem pgPutK_get (L : List Pg) (p : Nat) (x : Pg) (i : Nat) : ∀ k, p + 1 + k ≤ L.length → (pgPutK L p x k)[i]? = if i = p then some x else if p < i ∧ i < p + 1 + k then some pgIn else L[i]?
  | 0, h => by
    unfold pgPutK
    rw [List.getElem?_set]
    by_cases hi : p = i
    · subst hi; simp; omega
    · rw [if_neg hi, if_neg (by omega), if_neg (by omega)]
  | k + 1, h => by
    unfold pgPutK
    rw [List.getElem?_set, pgPutK_get L p x i k (by omega), pgPutK_len]
    by_cases hi : p + 1 + k = i
    · subst hi
      rw [if_pos rfl, if_pos (by omega), if_neg (by omega), if_pos (by omega)]
    · rw [if_neg hi]
      by_cases h2 : i = p
      · rw [if_pos h2, if_pos h2]
      · rw [if_neg h2, if_neg h2]
        by_cases h3 : p < i ∧ i < p + 1 + k
        · rw [if_pos h3, if_pos (by omega)]
        · rw [if_neg h3, if_neg (by omega)]
theorem pgPutK_put {L : List Pg} {p : Nat} {x : Pg} (h : p + pgSize x ≤ L.length) : pgPutK L p x (pgSize x - 1) = pgPut L p x := by
  have := pgSize_pos x
  apply List.ext_getElem?
  intro i
  rw [pgPutK_get _ _ _ _ _ (by omega), pgPut_get h]
  rw [show p + 1 + (pgSize x - 1) = p + pgSize x from by omega]
end Go.Proofs.Ytljcndcmdphmgaa
