import Derived.Test.YthjjpmoifgcepaaGreatJhJhP
import Derived.Test.YthjjpmoifgcepaaGreatJh1
/-
  wainscotlaw30.JudgeHistories: snaps in memory. No condition.
-/
namespace Go.Proofs.YthjjpmoifgcepaaGreat.Jh
open Go.RowKit
/-- bytes that a slice may have -/
def BB : Nat := 140737488351232
/-- a slice that reads as cells: where they lie -/
theorem Src.at_ {w : World} {size n : Nat} {v : Value} {xs : List Value} (h : Src w size v n xs) (h0 : 0 < xs.length) : ∃ g o c, v = .slice (some ⟨g, o, none⟩) n c ∧ g < w.heap.size ∧ ∀ j u, xs[j]? = some u → w.cell? ⟨g, o + j, none⟩ = some u := by
  rcases h.2 with ⟨_, hn⟩ | ⟨a, c, rfl, hc⟩
  · have := h.1
    rw [hn] at this
    omega
  · have hu := hc 0 _ (List.getElem?_eq_getElem h0)
    have h1 : a.add 0 = a := by simp [Addr.add]
    rw [h1] at hu
    have hs : a.spot = none := by
      unfold World.cell? at hu
      split at hu
      · split at hu
        · cases hu
        · simpa using ‹¬ a.spot.isSome = true›
      · cases hu
    obtain ⟨B, o, s⟩ := a
    simp only at hs
    subst hs
    refine ⟨B, o, c, rfl, World.block_lt_of_cell? w ⟨B, o, none⟩ hu, fun j u hj => ?_⟩
    have := hc j u hj
    rwa [add_lit] at this
/-- .. or it has none -/
theorem Src.form {w : World} {size n : Nat} {v : Value} {xs : List Value} (h : Src w size v n xs) : ∃ A c, v = .slice A n c := by
  rcases h.2 with ⟨rfl, hn⟩ | ⟨a, c, rfl, _⟩
  · exact ⟨none, 0, by rw [hn]⟩
  · exact ⟨some a, c, rfl⟩
/-- a slice of numbers, of no more bytes than there may be -/
def IntsB (w : World) (v : Value) (L : List Int) : Prop := IntsSrc w v L ∧ L.length * 8 ≤ BB
theorem IntsB.own {W w : World} {v : Value} {L : List Int} {m : List (Nat × Obj)} (h : IntsB W v L) (hO : Own W m w) : IntsB w v L := ⟨h.1.ofOwn hO, h.2⟩
theorem IntsB.form {w : World} {v : Value} {L : List Int} (h : IntsB w v L) : ∃ A c, v = .slice A L.length c := Src.form h.1
theorem IntsB.at_ {w : World} {v : Value} {L : List Int} (h : IntsB w v L) (h0 : 0 < L.length) : ∃ g o c, v = .slice (some ⟨g, o, none⟩) L.length c ∧ g < w.heap.size ∧ ∀ (j : Nat) (x : Int), L[j]? = some x → w.cell? ⟨g, o + j, none⟩ = some (.int .i64 x) := by
  obtain ⟨g, o, c, h1, h2, h3⟩ := Src.at_ h.1 (by rw [ints_len]; exact h0)
  exact ⟨g, o, c, h1, h2, fun j x hx => h3 j _ (ints_get hx)⟩
/-- rows of cells, one behind the other -/
theorem flat_row {size : Nat} : ∀ {R : List (List Value)} {i j : Nat} {r : List Value} {u : Value}, (∀ r ∈ R, r.length = size) → R[i]? = some r → r[j]? = some u → R.flatten[i * size + j]? = some u
  | [], i, _, _, _, _, h, _ => by simp at h
  | r0 :: R, 0, j, r, u, hl, hr, hj => by
    simp only [List.getElem?_cons_zero, Option.some.injEq] at hr
    subst hr
    have := (List.getElem?_eq_some_iff.1 hj).1
    rw [List.flatten_cons, Nat.zero_mul, Nat.zero_add, List.getElem?_append_left this]
    exact hj
  | r0 :: R, i + 1, j, r, u, hl, hr, hj => by
    have h0 := hl r0 List.mem_cons_self
    rw [List.flatten_cons, List.getElem?_append_right (by rw [h0, Nat.succ_mul]; omega), h0, Nat.succ_mul, show i * size + size + j - size = i * size + j by omega]
    exact flat_row (fun r hr => hl r (List.mem_cons_of_mem _ hr)) (by simpa using hr) hj
theorem flat_len {size : Nat} : ∀ {R : List (List Value)}, (∀ r ∈ R, r.length = size) → R.flatten.length = R.length * size
  | [], _ => by simp
  | r0 :: R, hl => by
    rw [List.flatten_cons, List.length_append, hl r0 List.mem_cons_self, flat_len fun r hr => hl r (List.mem_cons_of_mem _ hr), List.length_cons, Nat.succ_mul]
    omega
/-- a slice of structs of so many cells -/
structure Rows (w : World) (size : Nat) (v : Value) (R : List (List Value)) : Prop where
  src : Src w size v R.length R.flatten
  len : ∀ r ∈ R, r.length = size
  one : ∀ r ∈ R, ∀ u ∈ r, u.oneCell' = true
theorem Rows.own {W w : World} {size : Nat} {v : Value} {R : List (List Value)} {m : List (Nat × Obj)} (h : Rows W size v R) (hO : Own W m w) : Rows w size v R := ⟨h.src.ofOwn hO, h.len, h.one⟩
theorem Rows.form {w : World} {size : Nat} {v : Value} {R : List (List Value)} (h : Rows w size v R) : ∃ A c, v = .slice A R.length c := Src.form h.src
/-- the cells of one -/
theorem Rows.at_ {w : World} {size : Nat} {v : Value} {R : List (List Value)} (h : Rows w size v R) (hs : 0 < size) (h0 : 0 < R.length) : ∃ g o c, v = .slice (some ⟨g, o, none⟩) R.length c ∧ g < w.heap.size ∧
    ∀ (i : Nat) r, R[i]? = some r → ∀ (j : Nat) u, r[j]? = some u → w.cell? ⟨g, o + i * size + j, none⟩ = some u := by
  have hl := flat_len h.len
  obtain ⟨g, o, c, h1, h2, h3⟩ := Src.at_ h.src (by rw [hl]; exact Nat.mul_pos h0 hs)
  refine ⟨g, o, c, h1, h2, fun i r hr j u hj => ?_⟩
  have := h3 _ _ (flat_row h.len hr hj)
  rwa [← Nat.add_assoc] at this
theorem Rows.flat_one {w : World} {size : Nat} {v : Value} {R : List (List Value)} (h : Rows w size v R) : ∀ u ∈ R.flatten, u.oneCell' = true := fun u hu => by
  obtain ⟨r, hr, hur⟩ := List.mem_flatten.1 hu
  exact h.one r hr u hur
/-- .. of which one cell is a slice of numbers -/
structure RowsI (w : World) (size k bytes : Nat) (v : Value) (R : List (List Value)) (L : List (List Int)) : Prop where
  rows : Rows w size v R
  len : R.length = L.length
  bytes : R.length * bytes ≤ BB
  cell : ∀ (i : Nat) r l, R[i]? = some r → L[i]? = some l → ∃ sv, r[k]? = some sv ∧ IntsB w sv l
theorem RowsI.own {W w : World} {size k bytes : Nat} {v : Value} {R : List (List Value)} {L : List (List Int)} {m : List (Nat × Obj)} (h : RowsI W size k bytes v R L) (hO : Own W m w) : RowsI w size k bytes v R L :=
  ⟨h.rows.own hO, h.len, h.bytes, fun i r l hr hl => by
    obtain ⟨sv, h1, h2⟩ := h.cell i r l hr hl
    exact ⟨sv, h1, h2.own hO⟩⟩
def hnCells (h : Hn) : List Value := [.int .i64 h.cache, .int .i64 h.slab, .int .i64 h.obj, .int .i64 h.group, .bool h.out]
def ddCells (d : Dd) (sv : Value) : List Value := [.int .i64 d.cpu, .int .i64 d.op, .int .i64 d.fr, .int .i64 d.tp, .int .i64 d.e, sv]
/-- paths -/
def paCells (_ : List Int) (sv : Value) : List Value := [sv]
def PathsV (w : World) (v : Value) (ps : List (List Int)) : Prop := ∃ svs : List Value, svs.length = ps.length ∧ RowsI w 1 0 24 v (List.zipWith paCells ps svs) ps
/-- handles -/
def HansV (w : World) (v : Value) (hs : List Hn) : Prop := Rows w 5 v (hs.map hnCells) ∧ hs.length * 40 ≤ BB
/-- calls that have ended -/
def DidsV (w : World) (v : Value) (ds : List Dd) : Prop := ∃ svs : List Value, svs.length = ds.length ∧ RowsI w 6 5 64 v (List.zipWith ddCells ds svs) (ds.map Dd.hs)
/-- a cache: its numbers, whether it lives -/
structure Ca where
  f : Nat → Int
  live : Bool
def caCells (a : Ca) (sv : Value) : List Value := [.int .i64 (a.f 0), .int .i64 (a.f 1), .int .i64 (a.f 2), .int .i64 (a.f 3), .bool a.live, .int .i64 (a.f 5), sv, .int .i64 (a.f 7), .int .i64 (a.f 8), .int .i64 (a.f 9), .int .i64 (a.f 10), .int .i64 (a.f 11), .int .i64 (a.f 12), .int .i64 (a.f 13)]
/-- caches -/
def CasV (w : World) (v : Value) (cs : List Ca) (L : List (List Int)) : Prop := ∃ svs : List Value, svs.length = cs.length ∧ RowsI w 14 6 128 v (List.zipWith caCells cs svs) L
def CachesV (w : World) (v : Value) (n : Nat) : Prop := ∃ cs L, CasV w v cs L ∧ cs.length = n
/-- a snap -/
structure SnapV (w : World) (v : Value) (s : Sn) : Prop where
  out : ∃ v1 v2 v3 v4 v5 v6 v7 v8 v9 v10 v11, v = .agg #[.int .i64 s.now, v1, v2, v3, v4, v5, v6, v7, v8, v9, v10, v11] ∧ IntsB w v1 s.depths ∧ PathsV w v2 s.paths ∧ IntsB w v3 s.used ∧ IntsB w v4 s.most ∧ IntsB w v5 s.owned ∧ IntsB w v6 s.held ∧ IntsB w v7 s.flies ∧ IntsB w v8 s.tags ∧ CachesV w v9 s.nc ∧ HansV w v10 s.hn ∧ DidsV w v11 s.ds
theorem PathsV.own {W w : World} {v : Value} {ps : List (List Int)} {m : List (Nat × Obj)} (h : PathsV W v ps) (hO : Own W m w) : PathsV w v ps := by
  obtain ⟨svs, h1, h2⟩ := h
  exact ⟨svs, h1, h2.own hO⟩
theorem HansV.own {W w : World} {v : Value} {hs : List Hn} {m : List (Nat × Obj)} (h : HansV W v hs) (hO : Own W m w) : HansV w v hs := ⟨h.1.own hO, h.2⟩
theorem DidsV.own {W w : World} {v : Value} {ds : List Dd} {m : List (Nat × Obj)} (h : DidsV W v ds) (hO : Own W m w) : DidsV w v ds := by
  obtain ⟨svs, h1, h2⟩ := h
  exact ⟨svs, h1, h2.own hO⟩
theorem CachesV.own {W w : World} {v : Value} {n : Nat} {m : List (Nat × Obj)} (h : CachesV W v n) (hO : Own W m w) : CachesV w v n := by
  obtain ⟨cs, L, ⟨svs, h0, h1⟩, h2⟩ := h
  exact ⟨cs, L, ⟨svs, h0, h1.own hO⟩, h2⟩
theorem CasV.own {W w : World} {v : Value} {cs : List Ca} {L : List (List Int)} {m : List (Nat × Obj)} (h : CasV W v cs L) (hO : Own W m w) : CasV w v cs L := by
  obtain ⟨svs, h0, h1⟩ := h
  exact ⟨svs, h0, h1.own hO⟩
theorem SnapV.own {W w : World} {v : Value} {s : Sn} {m : List (Nat × Obj)} (h : SnapV W v s) (hO : Own W m w) : SnapV w v s := by
  obtain ⟨v1, v2, v3, v4, v5, v6, v7, v8, v9, v10, v11, e, h1, h2, h3, h4, h5, h6, h7, h8, h9, h10, h11⟩ := h.out
  exact ⟨v1, v2, v3, v4, v5, v6, v7, v8, v9, v10, v11, e, h1.own hO, h2.own hO, h3.own hO, h4.own hO, h5.own hO, h6.own hO, h7.own hO, h8.own hO, h9.own hO, h10.own hO, h11.own hO⟩
theorem PathsV.form {w : World} {v : Value} {ps : List (List Int)} (h : PathsV w v ps) : ∃ A c, v = .slice A ps.length c := by
  obtain ⟨svs, _, h⟩ := h
  obtain ⟨A, c, e⟩ := h.rows.form
  rw [h.len] at e
  exact ⟨A, c, e⟩
theorem PathsV.bytes {w : World} {v : Value} {ps : List (List Int)} (h : PathsV w v ps) : ps.length * 24 ≤ BB := by
  obtain ⟨svs, _, h⟩ := h
  have := h.bytes
  rwa [h.len] at this
theorem PathsV.at_ {w : World} {v : Value} {ps : List (List Int)} (h : PathsV w v ps) (h0 : 0 < ps.length) : ∃ g o c, v = .slice (some ⟨g, o, none⟩) ps.length c ∧ g < w.heap.size ∧ ∀ (i : Nat) p, ps[i]? = some p → ∃ sv, w.cell? ⟨g, o + i, none⟩ = some sv ∧ IntsB w sv p := by
  obtain ⟨svs, _, h⟩ := h
  have hl := h.len
  obtain ⟨g, o, c, h1, h2, h3⟩ := h.rows.at_ (by omega) (by omega)
  rw [hl] at h1
  refine ⟨g, o, c, h1, h2, fun i p hp => ?_⟩
  have hi := (List.getElem?_eq_some_iff.1 hp).1
  obtain ⟨r, hr⟩ : ∃ r, (List.zipWith paCells ps svs)[i]? = some r := ⟨_, List.getElem?_eq_getElem (by omega)⟩
  obtain ⟨sv, hs, hB⟩ := h.cell i r p hr hp
  have := h3 i r hr 0 sv hs
  rw [Nat.mul_one, Nat.add_zero] at this
  exact ⟨sv, this, hB⟩
theorem HansV.form {w : World} {v : Value} {hs : List Hn} (h : HansV w v hs) : ∃ A c, v = .slice A hs.length c := by
  obtain ⟨A, c, e⟩ := h.1.form
  rw [List.length_map] at e
  exact ⟨A, c, e⟩
theorem HansV.at_ {w : World} {v : Value} {hs : List Hn} (h : HansV w v hs) (h0 : 0 < hs.length) : ∃ g o c, v = .slice (some ⟨g, o, none⟩) hs.length c ∧ g < w.heap.size ∧ ∀ (i : Nat) x, hs[i]? = some x → w.cell? ⟨g, o + i * 5, none⟩ = some (.int .i64 x.cache) ∧ w.cell? ⟨g, o + i * 5 + 1, none⟩ = some (.int .i64 x.slab) ∧ w.cell? ⟨g, o + i * 5 + 2, none⟩ = some (.int .i64 x.obj) ∧ w.cell? ⟨g, o + i * 5 + 3, none⟩ = some (.int .i64 x.group) ∧ w.cell? ⟨g, o + i * 5 + 4, none⟩ = some (.bool x.out) := by
  obtain ⟨g, o, c, h1, h2, h3⟩ := h.1.at_ (by omega) (by rw [List.length_map]; exact h0)
  rw [List.length_map] at h1
  refine ⟨g, o, c, h1, h2, fun i x hx => ?_⟩
  have hr : (hs.map hnCells)[i]? = some (hnCells x) := by rw [List.getElem?_map, hx]; rfl
  exact ⟨h3 i _ hr 0 _ rfl, h3 i _ hr 1 _ rfl, h3 i _ hr 2 _ rfl, h3 i _ hr 3 _ rfl, h3 i _ hr 4 _ rfl⟩
theorem DidsV.form {w : World} {v : Value} {ds : List Dd} (h : DidsV w v ds) : ∃ A c, v = .slice A ds.length c := by
  obtain ⟨svs, hl, h⟩ := h
  obtain ⟨A, c, e⟩ := h.rows.form
  rw [List.length_zipWith, hl, Nat.min_self] at e
  exact ⟨A, c, e⟩
theorem DidsV.bytes {w : World} {v : Value} {ds : List Dd} (h : DidsV w v ds) : ds.length * 64 ≤ BB := by
  obtain ⟨svs, hl, h⟩ := h
  have := h.bytes
  rwa [List.length_zipWith, hl, Nat.min_self] at this
theorem DidsV.at_ {w : World} {v : Value} {ds : List Dd} (h : DidsV w v ds) (h0 : 0 < ds.length) : ∃ g o c, v = .slice (some ⟨g, o, none⟩) ds.length c ∧ g < w.heap.size ∧ ∀ (i : Nat) d, ds[i]? = some d → ∃ sv, IntsB w sv d.hs ∧ w.cell? ⟨g, o + i * 6, none⟩ = some (.int .i64 d.cpu) ∧ w.cell? ⟨g, o + i * 6 + 1, none⟩ = some (.int .i64 d.op) ∧ w.cell? ⟨g, o + i * 6 + 2, none⟩ = some (.int .i64 d.fr) ∧ w.cell? ⟨g, o + i * 6 + 3, none⟩ = some (.int .i64 d.tp) ∧ w.cell? ⟨g, o + i * 6 + 4, none⟩ = some (.int .i64 d.e) ∧ w.cell? ⟨g, o + i * 6 + 5, none⟩ = some sv := by
  obtain ⟨svs, hl, h⟩ := h
  have hl2 : (List.zipWith ddCells ds svs).length = ds.length := by rw [List.length_zipWith, hl, Nat.min_self]
  obtain ⟨g, o, c, h1, h2, h3⟩ := h.rows.at_ (by omega) (by rw [hl2]; exact h0)
  rw [hl2] at h1
  refine ⟨g, o, c, h1, h2, fun i d hd => ?_⟩
  have hi := (List.getElem?_eq_some_iff.1 hd).1
  obtain ⟨s0, hs0⟩ : ∃ s0, svs[i]? = some s0 := ⟨_, List.getElem?_eq_getElem (by omega)⟩
  have hr : (List.zipWith ddCells ds svs)[i]? = some (ddCells d s0) := by rw [List.getElem?_zipWith, hd, hs0]
  obtain ⟨sv, hs, hB⟩ := h.cell i _ d.hs hr (by rw [List.getElem?_map, hd]; rfl)
  have : s0 = sv := Option.some.inj (show some s0 = some sv from hs)
  subst this
  exact ⟨s0, hB, h3 i _ hr 0 _ rfl, h3 i _ hr 1 _ rfl, h3 i _ hr 2 _ rfl, h3 i _ hr 3 _ rfl, h3 i _ hr 4 _ rfl, h3 i _ hr 5 _ rfl⟩
theorem CasV.len {w : World} {v : Value} {cs : List Ca} {L : List (List Int)} (h : CasV w v cs L) : L.length = cs.length := by
  obtain ⟨svs, hl, h⟩ := h
  have := h.len
  rw [List.length_zipWith, hl, Nat.min_self] at this
  exact this.symm
theorem CasV.form {w : World} {v : Value} {cs : List Ca} {L : List (List Int)} (h : CasV w v cs L) : ∃ A c, v = .slice A cs.length c := by
  obtain ⟨svs, hl, h⟩ := h
  obtain ⟨A, c, e⟩ := h.rows.form
  rw [List.length_zipWith, hl, Nat.min_self] at e
  exact ⟨A, c, e⟩
theorem CasV.bytes {w : World} {v : Value} {cs : List Ca} {L : List (List Int)} (h : CasV w v cs L) : cs.length * 128 ≤ BB := by
  obtain ⟨svs, hl, h⟩ := h
  have := h.bytes
  rwa [List.length_zipWith, hl, Nat.min_self] at this
theorem CasV.at_ {w : World} {v : Value} {cs : List Ca} {L : List (List Int)} (h : CasV w v cs L) (h0 : 0 < cs.length) : ∃ g o c, v = .slice (some ⟨g, o, none⟩) cs.length c ∧ g < w.heap.size ∧ ∀ (i : Nat) a l, cs[i]? = some a → L[i]? = some l → ∃ sv, IntsB w sv l ∧ ∀ (j : Nat) u, (caCells a sv)[j]? = some u → w.cell? ⟨g, o + i * 14 + j, none⟩ = some u := by
  obtain ⟨svs, hl, h⟩ := h
  have hl2 : (List.zipWith caCells cs svs).length = cs.length := by rw [List.length_zipWith, hl, Nat.min_self]
  obtain ⟨g, o, c, h1, h2, h3⟩ := h.rows.at_ (by omega) (by rw [hl2]; exact h0)
  rw [hl2] at h1
  refine ⟨g, o, c, h1, h2, fun i a l ha hL => ?_⟩
  have hi := (List.getElem?_eq_some_iff.1 ha).1
  obtain ⟨s0, hs0⟩ : ∃ s0, svs[i]? = some s0 := ⟨_, List.getElem?_eq_getElem (by omega)⟩
  have hr : (List.zipWith caCells cs svs)[i]? = some (caCells a s0) := by rw [List.getElem?_zipWith, ha, hs0]
  obtain ⟨sv, hs, hB⟩ := h.cell i _ l hr hL
  have : s0 = sv := Option.some.inj (show some s0 = some sv from hs)
  subst this
  exact ⟨s0, hB, fun j u hu => h3 i _ hr j u hu⟩
theorem CachesV.form {w : World} {v : Value} {n : Nat} (h : CachesV w v n) : ∃ A c, v = .slice A n c := by
  obtain ⟨cs, L, h, rfl⟩ := h
  exact h.form
end Go.Proofs.YthjjpmoifgcepaaGreat.Jh
