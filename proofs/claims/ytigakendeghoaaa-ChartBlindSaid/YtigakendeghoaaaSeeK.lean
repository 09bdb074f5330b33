/-
  Contract: wainscotref21.Same of two values that are one core. No condition.
-/
import Derived.Test.YtigakendeghoaaaSeeJ
import Derived.Test.YtigakendeghoaaaEqI
namespace Go.Proofs.Ytigakendeghoaaa.See
open Go.RowKit
attribute [local go_sem ↓] Go.wp_at_zero Go.wp_at_succ
/-- lists that are short -/
def SmallC (K : CoreP) : Prop := K.slots.length ≤ 100 ∧ K.slabs.length ≤ 100 ∧ K.shelf.length ≤ 100 ∧ (∀ s ∈ K.slots, s.list.length ≤ 100 ∧ s.parts.length ≤ 100) ∧ ∀ s ∈ K.slabs, s.first.length ≤ 100
theorem walk_len {sh : Nat → Int → Option Int} {l : List Nat} : ∀ {n : Nat} {out r : List Int} {i : Int}, walk sh l n out i = some r → r.length ≤ out.length + n
  | 0, _, _, _, h => by cases h
  | n + 1, out, r, i, h => by
    unfold walk at h
    split at h
    · cases h; omega
    · split at h
      · cases h
      · split at h
        · cases h
        · split at h
          · cases h
          · have := walk_len h
            simp at this
            omega
theorem chain_len {of : Nat → Option Int} {nx : Int → Nat} {S : Nat} : ∀ {n : Nat} {out r : List Int} {w : Nat}, chain of nx S n out w = some r → r.length ≤ out.length + n
  | 0, _, _, _, h => by cases h
  | n + 1, out, r, w, h => by
    unfold chain at h
    split at h
    · cases h
    · split at h
      · cases h
      · split at h
        · cases h; omega
        · have := chain_len h
          simp at this
          omega
theorem listP_len {c : Ch} {g : List Nat} {s i : Int} {l : List Int} (h : listP c g s i = some l) : l.length ≤ c.O + 1 := by
  unfold listP at h
  split at h
  · have := walk_len h
    simp at this
    omega
  · cases h
theorem upto_mem {α : Type} {f : Nat → Option α} {n : Nat} {l : List α} (h : upto f n = some l) {x : α} (hx : x ∈ l) : ∃ i, i < n ∧ f i = some x := by
  obtain ⟨i, hi, rfl⟩ := List.getElem_of_mem hx
  have hl := upto_len h
  exact ⟨i, by omega, by rw [upto_get h i (by omega), List.getElem?_eq_getElem hi]⟩
theorem see_small {c : Ch} {g : List Nat} {K : CoreP} (hc : c.C ≤ 8 ∧ c.S ≤ 32 ∧ c.O ≤ 16) (h : seeP c g = some K) : SmallC K := by
  unfold seeP at h
  split at h <;> first | (cases h; done) | skip
  rename_i a ha
  split at h <;> first | (cases h; done) | skip
  rename_i l hl
  split at h <;> first | (cases h; done) | skip
  rename_i b hb
  simp only [Option.some.injEq] at h
  subst h
  refine ⟨by rw [upto_len ha]; omega, by rw [upto_len hb]; omega, ?_, fun s hs => ?_, fun s hs => ?_⟩
  · have := chain_len hl
    simp at this
    show l.length ≤ 100
    omega
  · obtain ⟨i, hi, hf⟩ := upto_mem ha hs
    unfold slotP at hf
    split at hf <;> first | (cases hf; done) | skip
    split at hf <;> first | (cases hf; done) | skip
    rename_i l1 hl1
    split at hf <;> first | (cases hf; done) | skip
    rename_i l2 hl2
    simp only [Option.some.injEq] at hf
    subst hf
    constructor
    · show l1.length ≤ 100
      split at hl1
      · simp only [Option.some.injEq] at hl1
        subst hl1
        simp
      · have := listP_len hl1
        omega
    · show l2.length ≤ 100
      have := chain_len hl2
      simp at this
      omega
  · obtain ⟨i, hi, hf⟩ := upto_mem hb hs
    unfold slabP at hf
    split at hf <;> first | (cases hf; done) | skip
    split at hf <;> first | (cases hf; done) | skip
    split at hf <;> first | (cases hf; done) | skip
    rename_i l1 hl1
    simp only [Option.some.injEq] at hf
    subst hf
    have := listP_len hl1
    show l1.length ≤ 100
    omega
theorem flat_get {α : Type} (f : α → List Value) (n : Nat) (hf : ∀ x, (f x).length = n) : ∀ {L : List α} {i j : Nat} {x : α}, L[i]? = some x → j < n → (L.flatMap f)[i * n + j]? = (f x)[j]?
  | [], i, j, x, h, _ => by simp at h
  | y :: L, 0, j, x, h, hj => by
    simp at h
    subst h
    rw [List.flatMap_cons, Nat.zero_mul, Nat.zero_add, List.getElem?_append_left (by rw [hf]; exact hj)]
  | y :: L, i + 1, j, x, h, hj => by
    rw [List.flatMap_cons, List.getElem?_append_right (by rw [hf, Nat.succ_mul]; omega), hf, show (i + 1) * n + j - n = i * n + j by rw [Nat.succ_mul]; omega]
    exact flat_get f n hf (by simpa using h) hj
theorem flatMap_split {α : Type} (f : α → List (Nat × Obj)) : ∀ {L : List α} {x : α}, x ∈ L → ∃ r, (L.flatMap f).Perm (f x ++ r)
  | y :: L, x, h => by
    rcases List.mem_cons.1 h with rfl | h
    · exact ⟨L.flatMap f, by rw [List.flatMap_cons]⟩
    · obtain ⟨r, hr⟩ := flatMap_split f h
      refine ⟨f y ++ r, ?_⟩
      rw [List.flatMap_cons]
      exact (List.Perm.append_left (f y) hr).trans (perm_swap _ _ _)
section
variable {W w : World} {M m bs : List (Nat × Obj)} {b : Nat}
theorem slots_at {L : List SlotN} {A : Option Addr} {n cap : Nat} {b0 : List (Nat × Obj)} (h : SlO true 78 4 (.slice A n cap) n (slotCells L) b0) (hO : Own W (b0 ++ M) w) {i : Nat} {s : SlotN} (hs : L[i]? = some s) (hi : i < n) :
    ∃ g, A = some ⟨g, 0, none⟩ ∧ w.cell? ⟨g, i * 4, none⟩ = some (.int .i64 s.x.slab) ∧ w.cell? ⟨g, i * 4 + 1, none⟩ = some s.lv ∧ w.cell? ⟨g, i * 4 + 2, none⟩ = some (.int .u64 s.x.turn) ∧ w.cell? ⟨g, i * 4 + 3, none⟩ = some s.pv ∧ g < w.heap.size := by
  obtain ⟨g, cap', cur, hv, -⟩ := h.form (by omega)
  simp only [Value.slice.injEq, true_and] at hv
  obtain ⟨rfl, rfl⟩ := hv
  have hg := fun j (hj : j < 4) => flat_get SlotN.cells 4 (fun _ => rfl) hs hj
  exact ⟨g, rfl, h.cell hO rfl (hg 0 (by omega)), h.cell hO rfl (hg 1 (by omega)), h.cell hO rfl (hg 2 (by omega)), h.cell hO rfl (hg 3 (by omega)), h.lt hO rfl⟩
theorem slabs_at {L : List SlabN} {A : Option Addr} {n cap : Nat} {b0 : List (Nat × Obj)} (h : SlO true 82 5 (.slice A n cap) n (slabCells L) b0) (hO : Own W (b0 ++ M) w) {i : Nat} {s : SlabN} (hs : L[i]? = some s) (hi : i < n) :
    ∃ g, A = some ⟨g, 0, none⟩ ∧ w.cell? ⟨g, i * 5, none⟩ = some (.int .i64 s.x.counts.inuse) ∧ w.cell? ⟨g, i * 5 + 1, none⟩ = some (.int .i64 s.x.counts.objects) ∧ w.cell? ⟨g, i * 5 + 2, none⟩ = some (.bool s.x.counts.frozen) ∧ w.cell? ⟨g, i * 5 + 3, none⟩ = some (.bool s.x.counts.live) ∧ w.cell? ⟨g, i * 5 + 4, none⟩ = some s.v ∧ g < w.heap.size := by
  obtain ⟨g, cap', cur, hv, -⟩ := h.form (by omega)
  simp only [Value.slice.injEq, true_and] at hv
  obtain ⟨rfl, rfl⟩ := hv
  have hg := fun j (hj : j < 5) => flat_get SlabN.cells 5 (fun _ => rfl) hs hj
  exact ⟨g, rfl, h.cell hO rfl (hg 0 (by omega)), h.cell hO rfl (hg 1 (by omega)), h.cell hO rfl (hg 2 (by omega)), h.cell hO rfl (hg 3 (by omega)), h.cell hO rfl (hg 4 (by omega)), h.lt hO rfl⟩
theorem slots_src {L : List SlotN} (hk : SlotsOk L) (hO : Own W (slotBlocks L ++ M) w) {s : SlotN} (hs : s ∈ L) : IntsSrc w s.lv s.x.list ∧ IntsSrc w s.pv s.x.parts := by
  obtain ⟨r, hr⟩ := flatMap_split (fun s : SlotN => s.lb ++ s.pb) hs
  obtain ⟨h1, h2⟩ := hk s hs
  have h3 : Own W (s.lb ++ (s.pb ++ (r ++ M))) w := by
    have := hO.perm (List.Perm.append_right M hr)
    simpa [List.append_assoc] using this
  exact ⟨h1.src h3, h2.src h3.swap⟩
theorem slabs_src {L : List SlabN} (hk : SlabsOk L) (hO : Own W (slabBlocks L ++ M) w) {s : SlabN} (hs : s ∈ L) : IntsSrc w s.v s.x.first := by
  obtain ⟨r, hr⟩ := flatMap_split SlabN.b hs
  have h3 : Own W (s.b ++ (r ++ M)) w := by
    have := hO.perm (List.Perm.append_right M hr)
    simpa [List.append_assoc] using this
  exact SlO.src (hk s hs) h3
/-- a core's parts, wherever its blocks lie -/
structure Parts (K : CoreP) (A0 A1 A2 : Option Addr) (c0 c1 c2 : Nat) (bs : List (Nat × Obj)) (Ls : List SlotN) (Ll : List SlabN) : Prop where
  es : Ls.map (·.x) = K.slots
  el : Ll.map (·.x) = K.slabs
  slots : ∀ {W w M}, Own W (bs ++ M) w → ∀ {i s}, Ls[i]? = some s → i < K.slots.length → (∃ g, A0 = some ⟨g, 0, none⟩ ∧ w.cell? ⟨g, i * 4, none⟩ = some (.int .i64 s.x.slab) ∧ w.cell? ⟨g, i * 4 + 1, none⟩ = some s.lv ∧ w.cell? ⟨g, i * 4 + 2, none⟩ = some (.int .u64 s.x.turn) ∧ w.cell? ⟨g, i * 4 + 3, none⟩ = some s.pv ∧ g < w.heap.size) ∧ IntsSrc w s.lv s.x.list ∧ IntsSrc w s.pv s.x.parts
  slabs : ∀ {W w M}, Own W (bs ++ M) w → ∀ {i s}, Ll[i]? = some s → i < K.slabs.length → (∃ g, A2 = some ⟨g, 0, none⟩ ∧ w.cell? ⟨g, i * 5, none⟩ = some (.int .i64 s.x.counts.inuse) ∧ w.cell? ⟨g, i * 5 + 1, none⟩ = some (.int .i64 s.x.counts.objects) ∧ w.cell? ⟨g, i * 5 + 2, none⟩ = some (.bool s.x.counts.frozen) ∧ w.cell? ⟨g, i * 5 + 3, none⟩ = some (.bool s.x.counts.live) ∧ w.cell? ⟨g, i * 5 + 4, none⟩ = some s.v ∧ g < w.heap.size) ∧ IntsSrc w s.v s.x.first
  shelf : ∀ {W w M}, Own W (bs ++ M) w → IntsSrc w (.slice A1 K.shelf.length c1) K.shelf
theorem core_parts {v : Value} {K : CoreP} (h : CoreO v K bs) : ∃ A0 A1 A2 c0 c1 c2 Ls Ll, v = .agg #[.slice A0 K.slots.length c0, .slice A1 K.shelf.length c1, .bool K.locked, .slice A2 K.slabs.length c2] ∧ Parts K A0 A1 A2 c0 c1 c2 bs Ls Ll := by
  obtain ⟨Ls, sv, b0, hv, b1, Ll, lv, b2, rfl, es, so, s1, h1, el, lo, l1, rfl⟩ := h
  have ns : Ls.length = K.slots.length := by rw [← es, List.length_map]
  have nl : Ll.length = K.slabs.length := by rw [← el, List.length_map]
  unfold SlotsV at s1
  unfold SlabsV at l1
  rw [ns] at s1
  rw [nl] at l1
  obtain ⟨A0, c0, rfl, -, -⟩ := s1.slice
  obtain ⟨A1, c1, rfl, -, -⟩ := SlO.slice h1
  obtain ⟨A2, c2, rfl, -, -⟩ := l1.slice
  refine ⟨A0, A1, A2, c0, c1, c2, Ls, Ll, rfl, ⟨es, el, fun hO i s hs hi => ?_, fun hO i s hs hi => ?_, fun hO => ?_⟩⟩
  · simp only [List.append_assoc] at hO
    exact ⟨slots_at s1 hO hs hi, slots_src so hO.dropL (List.mem_of_getElem? hs)⟩
  · simp only [List.append_assoc] at hO
    have h3 := hO.dropL.dropL.dropL
    exact ⟨slabs_at l1 h3 hs hi, slabs_src lo h3.dropL (List.mem_of_getElem? hs)⟩
  · simp only [List.append_assoc] at hO
    exact SlO.src h1 hO.dropL.dropL
theorem src_slice {v : Value} {l : List Int} (h : IntsSrc w v l) : ∃ A c, v = .slice A l.length c := by
  rcases h.2 with ⟨rfl, hn⟩ | ⟨a, c, rfl, -⟩
  · exact ⟨none, 0, by rw [hn]⟩
  · exact ⟨_, _, rfl⟩
set_option maxRecDepth 100000 in
set_option maxHeartbeats 8000000 in
theorem same_spec {v1 v2 : Value} {K : CoreP} {bs1 bs2 : List (Nat × Obj)} (h : Own W (bs1 ++ (bs2 ++ m)) w) (h1 : CoreO v1 K bs1) (h2 : CoreO v2 K bs2) (hs : SmallC K) :
    Calls Try.prog 38 #[v1, v2] w fun e w' => e = .returned (.bool true) ∧ Own W (bs1 ++ (bs2 ++ m)) w' := by
  obtain ⟨A0, A1, A2, c0, c1, c2, Ls, Ll, rfl, P1⟩ := core_parts h1
  obtain ⟨D0, D1, D2, d0, d1, d2, Ms, Ml, rfl, P2⟩ := core_parts h2
  generalize K.locked = lk at h1 h2 ⊢
  have HP1 := Lib.hid P1
  have HP2 := Lib.hid P2
  have HS := Lib.hid hs
  obtain ⟨n, hn⟩ : ∃ n, K.slots.length = n := ⟨_, rfl⟩
  obtain ⟨l, hl⟩ : ∃ l, K.slabs.length = l := ⟨_, rfl⟩
  obtain ⟨q, hq⟩ : ∃ q, K.shelf.length = q := ⟨_, rfl⟩
  have hn1 : n ≤ 100 := by rw [← hn]; exact hs.1
  have hl1 : l ≤ 100 := by rw [← hl]; exact hs.2.1
  have HN := Lib.hid hn
  have HL := Lib.hid hl
  have HQ := Lib.hid hq
  rw [hn, hl, hq]
  have hk := (h.new (.cells #[.slice A0 n c0, .slice A1 q c1, .bool lk, .slice A2 l c2] 40)).new (.cells #[.slice D0 n d0, .slice D1 q d1, .bool lk, .slice D2 l d2] 40)
  obtain ⟨b, hb⟩ : ∃ b, w.heap.size = b := ⟨_, rfl⟩
  simp only [World.size_alloc] at hk
  rw [hb] at hk
  have hk : Own W (kBlk (b + 1) (.slice D0 n d0) (.slice D1 q d1) lk (.slice D2 l d2) :: (kBlk b (.slice A0 n c0) (.slice A1 q c1) lk (.slice A2 l c2) :: (bs1 ++ (bs2 ++ m)))) _ := hk
  obtain ⟨⟨z0, z1, z2, z3⟩, -⟩ := boxK hk
  obtain ⟨⟨y0, y1, y2, y3⟩, -⟩ := boxK hk.skip
  have hq1 := HP1.out.shelf hk.skip.skip
  have hq2 := HP2.out.shelf (hk.skip.skip.swap)
  rw [hq] at hq1 hq2
  have HQ1 := Lib.hid hq1
  have HQ2 := Lib.hid hq2
  have HKK := Lib.hid hk
  clear hs h1 h2 P1 P2 hn hl hq hk hq1 hq2 h
  go_enter Try.func38, Try.ntmps38
  go_wp2_with fail
  refine (eqInts_yes HQ1.out HQ2.out (by have := HS.out.2.2.1; omega) rfl HKK.out).mono ?_
  rintro e w2 ⟨rfl, h2⟩
  clear y0 y1 y2 y3 z0 z1 z2 z3
  obtain ⟨⟨z0, z1, z2, z3⟩, -⟩ := boxK h2
  obtain ⟨⟨y0, y1, y2, y3⟩, -⟩ := boxK h2.skip
  go_wp2_with fail
  have H2 := Lib.hid h2
  clear z0 z1 z2 z3 y0 y1 y2 y3 h2
  go_loopw [5] (fun iv wr => ∃ i : Nat, iv = .int .i64 i ∧ i ≤ n ∧ Own W (kBlk (b + 1) (.slice D0 n d0) (.slice D1 q d1) lk (.slice D2 l d2) :: (kBlk b (.slice A0 n c0) (.slice A1 q c1) lk (.slice A2 l c2) :: (bs1 ++ (bs2 ++ m)))) wr) (fun iv _ => n - (intOf iv).toNat)
  case atStart => exact ⟨0, rfl, by omega, H2.out⟩
  case round =>
    clear H2
    obtain ⟨i, rfl, hi, hr⟩ := hrel
    obtain ⟨⟨z0, z1, z2, z3⟩, -⟩ := boxK hr
    obtain ⟨⟨y0, y1, y2, y3⟩, -⟩ := boxK hr.skip
    by_cases hlt : i < n
    · have hlti : (i : Int) < n := by omega
      have hi0 : (0 : Int) ≤ i := by omega
      obtain ⟨⟨⟨sx, sl, st, sp⟩, lv1, lb1, pv1, pb1⟩, hs1⟩ : ∃ s, Ls[i]? = some s := ⟨_, List.getElem?_eq_getElem (by have := congrArg List.length HP1.out.es; rw [List.length_map, HN.out] at this; omega)⟩
      obtain ⟨⟨x2, lv2, lb2, pv2, pb2⟩, hs2⟩ : ∃ s, Ms[i]? = some s := ⟨_, List.getElem?_eq_getElem (by have := congrArg List.length HP2.out.es; rw [List.length_map, HN.out] at this; omega)⟩
      have hx : x2 = ⟨sx, sl, st, sp⟩ := by
        have e1 := congrArg (fun l => l[i]?) (HP1.out.es.trans HP2.out.es.symm)
        simp only [List.getElem?_map, hs1, hs2, Option.map_some, Option.some.injEq] at e1
        exact e1.symm
      subst hx
      have hiK : i < K.slots.length := by rw [HN.out]; exact hlt
      have hm1 : (⟨sx, sl, st, sp⟩ : SlotP) ∈ K.slots := by
        rw [← HP1.out.es]
        exact List.mem_map.2 ⟨_, List.mem_of_getElem? hs1, rfl⟩
      have hsm := HS.out.2.2.2.1 _ hm1
      obtain ⟨⟨g1, rfl, p0, p1, p2, p3, gl1⟩, r1, r2⟩ := HP1.out.slots hr.skip.skip hs1 hiK
      obtain ⟨⟨g2, rfl, o0, o1, o2, o3, gl2⟩, r3, r4⟩ := HP2.out.slots hr.skip.skip.swap hs2 hiK
      simp only at p0 p1 p2 p3 o0 o1 o2 o3 r1 r2 r3 r4 hsm
      obtain ⟨B1, e1, rfl⟩ := src_slice r1
      obtain ⟨B2, e2, rfl⟩ := src_slice r2
      obtain ⟨B3, e3, rfl⟩ := src_slice r3
      obtain ⟨B4, e4, rfl⟩ := src_slice r4
      have HS1 := Lib.hid hs1
      have HS2 := Lib.hid hs2
      have HIK := Lib.hid hiK
      have HSM := Lib.hid hsm
      obtain ⟨u1, hu1⟩ : ∃ u1, sl.length = u1 := ⟨_, rfl⟩
      obtain ⟨u2, hu2⟩ : ∃ u2, sp.length = u2 := ⟨_, rfl⟩
      have HU1 := Lib.hid hu1
      have HU2 := Lib.hid hu2
      rw [hu1] at p1 o1
      rw [hu2] at p3 o3
      clear hs1 hs2 hiK hsm hm1 hu1 hu2 r1 r2 r3 r4 z1 z2 z3 y1 y2 y3
      have yb : b < wr.heap.size := hr.skip.lt List.mem_cons_self
      have zb : b + 1 < wr.heap.size := hr.lt List.mem_cons_self
      go_wp2_with fail
      go_region_held3 (fun w' => (w'.cell? ⟨b, 0, none⟩ = some (.slice (some ⟨g1, 0, none⟩) n c0) ∧ w'.cell? ⟨b + 1, 0, none⟩ = some (.slice (some ⟨g2, 0, none⟩) n d0)) ∧ (w'.cell? ⟨g1, i * 4, none⟩ = some (.int .i64 sx) ∧ w'.cell? ⟨g1, i * 4 + 1, none⟩ = some (.slice B1 u1 e1) ∧ w'.cell? ⟨g1, i * 4 + 2, none⟩ = some (.int .u64 (st : Int)) ∧ w'.cell? ⟨g1, i * 4 + 3, none⟩ = some (.slice B2 u2 e2)) ∧ (w'.cell? ⟨g2, i * 4, none⟩ = some (.int .i64 sx) ∧ w'.cell? ⟨g2, i * 4 + 1, none⟩ = some (.slice B3 u1 e3) ∧ w'.cell? ⟨g2, i * 4 + 2, none⟩ = some (.int .u64 (st : Int)) ∧ w'.cell? ⟨g2, i * 4 + 3, none⟩ = some (.slice B4 u2 e4))) (first | (refine ⟨⟨?_, ?_⟩, ⟨?_, ?_, ?_, ?_⟩, ⟨?_, ?_, ?_, ?_⟩⟩ <;> assumption) | go_keep) (fail)
      · have h3 := ((hr.new (.cells #[.int .i64 sx, .slice B1 u1 e1, .int .u64 st, .slice B2 u2 e2] 78)).new (.cells #[.int .i64 sx, .slice B3 u1 e3, .int .u64 st, .slice B4 u2 e4] 78)).drew
        obtain ⟨w3, hw3⟩ : ∃ w3, ((wr.alloc (.cells #[.int .i64 sx, .slice B1 u1 e1, .int .u64 st, .slice B2 u2 e2] 78)).alloc (.cells #[.int .i64 sx, .slice B3 u1 e3, .int .u64 st, .slice B4 u2 e4] 78)).drew = w3 := ⟨_, rfl⟩
        rw [World.size_alloc] at h3
        rw [hw3] at h3 ⊢
        have m0 := h3.cell List.mem_cons_self
        have m1 := h3.cell (List.mem_cons_of_mem _ List.mem_cons_self)
        have m00 := m0 0
        have m01 := m0 1
        have m02 := m0 2
        have m03 := m0 3
        have m10 := m1 0
        have m11 := m1 1
        have m12 := m1 2
        have m13 := m1 3
        simp at m00 m01 m02 m03 m10 m11 m12 m13
        have h4 := h3.skip.skip
        obtain ⟨-, r1, r2⟩ := HP1.out.slots h4.skip.skip HS1.out HIK.out
        obtain ⟨-, r3, r4⟩ := HP2.out.slots h4.skip.skip.swap HS2.out HIK.out
        simp only at r1 r2 r3 r4
        have R1 : Hid (IntsSrc w3 (.slice B1 u1 e1) sl) := by show IntsSrc w3 (.slice B1 u1 e1) sl; rw [← HU1.out]; exact r1
        have R3 : Hid (IntsSrc w3 (.slice B3 u1 e3) sl) := by show IntsSrc w3 (.slice B3 u1 e3) sl; rw [← HU1.out]; exact r3
        have H3 := Lib.hid h3
        clear hw3 m0 m1 r1 r2 r3 r4 p0 p1 p2 p3 o0 o1 o2 o3 y0 z0 h3 h4 hr
        go_wp2_with fail
        refine (eqInts_yes R1.out R3.out (by have := HSM.out.1; omega) rfl H3.out).mono ?_
        rintro e w4 ⟨rfl, h3⟩
        clear m00 m01 m02 m03 m10 m11 m12 m13
        have m0 := h3.cell List.mem_cons_self
        have m1 := h3.cell (List.mem_cons_of_mem _ List.mem_cons_self)
        have m00 := m0 0
        have m01 := m0 1
        have m02 := m0 2
        have m03 := m0 3
        have m10 := m1 0
        have m11 := m1 1
        have m12 := m1 2
        have m13 := m1 3
        simp at m00 m01 m02 m03 m10 m11 m12 m13
        have h4 := h3.skip.skip
        obtain ⟨-, r1, r2⟩ := HP1.out.slots h4.skip.skip HS1.out HIK.out
        obtain ⟨-, r3, r4⟩ := HP2.out.slots h4.skip.skip.swap HS2.out HIK.out
        simp only at r1 r2 r3 r4
        have R2 : Hid (IntsSrc w4 (.slice B2 u2 e2) sp) := by show IntsSrc w4 (.slice B2 u2 e2) sp; rw [← HU2.out]; exact r2
        have R4 : Hid (IntsSrc w4 (.slice B4 u2 e4) sp) := by show IntsSrc w4 (.slice B4 u2 e4) sp; rw [← HU2.out]; exact r4
        have H4 := Lib.hid h3
        clear m0 m1 r1 r2 r3 r4 h3 h4
        go_wp2_with fail
        refine (eqInts_yes R2.out R4.out (by have := HSM.out.2; omega) rfl H4.out).mono ?_
        rintro e w5 ⟨rfl, h5⟩
        clear m00 m01 m02 m03 m10 m11 m12 m13
        go_wp2_with fail
        exact ⟨⟨i + 1, by go_num, by omega, h5.skip.skip⟩, by simp [intOf]; omega⟩
      · have h3 := ((hr.new (.cells #[.int .i64 sx, .slice B3 u1 e3, .int .u64 st, .slice B4 u2 e4] 78)).new (.cells #[.int .i64 sx, .slice B1 u1 e1, .int .u64 st, .slice B2 u2 e2] 78)).drew
        obtain ⟨w3, hw3⟩ : ∃ w3, ((wr.alloc (.cells #[.int .i64 sx, .slice B3 u1 e3, .int .u64 st, .slice B4 u2 e4] 78)).alloc (.cells #[.int .i64 sx, .slice B1 u1 e1, .int .u64 st, .slice B2 u2 e2] 78)).drew = w3 := ⟨_, rfl⟩
        rw [World.size_alloc] at h3
        rw [hw3] at h3 ⊢
        have m0 := h3.cell List.mem_cons_self
        have m1 := h3.cell (List.mem_cons_of_mem _ List.mem_cons_self)
        have m00 := m0 0
        have m01 := m0 1
        have m02 := m0 2
        have m03 := m0 3
        have m10 := m1 0
        have m11 := m1 1
        have m12 := m1 2
        have m13 := m1 3
        simp at m00 m01 m02 m03 m10 m11 m12 m13
        have h4 := h3.skip.skip
        obtain ⟨-, r1, r2⟩ := HP1.out.slots h4.skip.skip HS1.out HIK.out
        obtain ⟨-, r3, r4⟩ := HP2.out.slots h4.skip.skip.swap HS2.out HIK.out
        simp only at r1 r2 r3 r4
        have R1 : Hid (IntsSrc w3 (.slice B1 u1 e1) sl) := by show IntsSrc w3 (.slice B1 u1 e1) sl; rw [← HU1.out]; exact r1
        have R3 : Hid (IntsSrc w3 (.slice B3 u1 e3) sl) := by show IntsSrc w3 (.slice B3 u1 e3) sl; rw [← HU1.out]; exact r3
        have H3 := Lib.hid h3
        clear hw3 m0 m1 r1 r2 r3 r4 p0 p1 p2 p3 o0 o1 o2 o3 y0 z0 h3 h4 hr
        go_wp2_with fail
        refine (eqInts_yes R1.out R3.out (by have := HSM.out.1; omega) rfl H3.out).mono ?_
        rintro e w4 ⟨rfl, h3⟩
        clear m00 m01 m02 m03 m10 m11 m12 m13
        have m0 := h3.cell List.mem_cons_self
        have m1 := h3.cell (List.mem_cons_of_mem _ List.mem_cons_self)
        have m00 := m0 0
        have m01 := m0 1
        have m02 := m0 2
        have m03 := m0 3
        have m10 := m1 0
        have m11 := m1 1
        have m12 := m1 2
        have m13 := m1 3
        simp at m00 m01 m02 m03 m10 m11 m12 m13
        have h4 := h3.skip.skip
        obtain ⟨-, r1, r2⟩ := HP1.out.slots h4.skip.skip HS1.out HIK.out
        obtain ⟨-, r3, r4⟩ := HP2.out.slots h4.skip.skip.swap HS2.out HIK.out
        simp only at r1 r2 r3 r4
        have R2 : Hid (IntsSrc w4 (.slice B2 u2 e2) sp) := by show IntsSrc w4 (.slice B2 u2 e2) sp; rw [← HU2.out]; exact r2
        have R4 : Hid (IntsSrc w4 (.slice B4 u2 e4) sp) := by show IntsSrc w4 (.slice B4 u2 e4) sp; rw [← HU2.out]; exact r4
        have H4 := Lib.hid h3
        clear m0 m1 r1 r2 r3 r4 h3 h4
        go_wp2_with fail
        refine (eqInts_yes R2.out R4.out (by have := HSM.out.2; omega) rfl H4.out).mono ?_
        rintro e w5 ⟨rfl, h5⟩
        clear m00 m01 m02 m03 m10 m11 m12 m13
        go_wp2_with fail
        exact ⟨⟨i + 1, by go_num, by omega, h5.skip.skip⟩, by simp [intOf]; omega⟩
    · have hnl : ¬ (i : Int) < (n : Int) := by omega
      have HR := Lib.hid hr
      clear hr z1 z2 y1 y2
      go_wp2_with fail
      obtain ⟨w0, hw0⟩ : ∃ w0 : World, w0 = wr := ⟨_, rfl⟩
      subst hw0
      go_loopw [8] (fun iv wr => ∃ i : Nat, iv = .int .i64 i ∧ i ≤ l ∧ Own W (kBlk (b + 1) (.slice D0 n d0) (.slice D1 q d1) lk (.slice D2 l d2) :: (kBlk b (.slice A0 n c0) (.slice A1 q c1) lk (.slice A2 l c2) :: (bs1 ++ (bs2 ++ m)))) wr) (fun iv _ => l - (intOf iv).toNat)
      case atStart => exact ⟨0, rfl, by omega, HR.out⟩
      case round =>
        clear HR z0 z3 y0 y3
        obtain ⟨i, rfl, hi, hr⟩ := hrel
        obtain ⟨⟨z0, z1, z2, z3⟩, -⟩ := boxK hr
        obtain ⟨⟨y0, y1, y2, y3⟩, -⟩ := boxK hr.skip
        by_cases hlt : i < l
        · have hlti : (i : Int) < l := by omega
          have hi0 : (0 : Int) ≤ i := by omega
          obtain ⟨⟨⟨⟨ni, no, nf, nv⟩, sl⟩, lv1, lb1⟩, hs1⟩ : ∃ s, Ll[i]? = some s := ⟨_, List.getElem?_eq_getElem (by have := congrArg List.length HP1.out.el; rw [List.length_map, HL.out] at this; omega)⟩
          obtain ⟨⟨x2, lv2, lb2⟩, hs2⟩ : ∃ s, Ml[i]? = some s := ⟨_, List.getElem?_eq_getElem (by have := congrArg List.length HP2.out.el; rw [List.length_map, HL.out] at this; omega)⟩
          have hx : x2 = ⟨⟨ni, no, nf, nv⟩, sl⟩ := by
            have e1 := congrArg (fun l => l[i]?) (HP1.out.el.trans HP2.out.el.symm)
            simp only [List.getElem?_map, hs1, hs2, Option.map_some, Option.some.injEq] at e1
            exact e1.symm
          subst hx
          have hiK : i < K.slabs.length := by rw [HL.out]; exact hlt
          have hm1 : (⟨⟨ni, no, nf, nv⟩, sl⟩ : SlabP) ∈ K.slabs := by
            rw [← HP1.out.el]
            exact List.mem_map.2 ⟨_, List.mem_of_getElem? hs1, rfl⟩
          have hsm := HS.out.2.2.2.2 _ hm1
          obtain ⟨⟨g1, rfl, p0, p1, p2, p3, p4, gl1⟩, r1⟩ := HP1.out.slabs hr.skip.skip hs1 hiK
          obtain ⟨⟨g2, rfl, o0, o1, o2, o3, o4, gl2⟩, r3⟩ := HP2.out.slabs hr.skip.skip.swap hs2 hiK
          simp only at p0 p1 p2 p3 p4 o0 o1 o2 o3 o4 r1 r3 hsm
          obtain ⟨B1, e1, rfl⟩ := src_slice r1
          obtain ⟨B3, e3, rfl⟩ := src_slice r3
          have HS1 := Lib.hid hs1
          have HS2 := Lib.hid hs2
          have HIK := Lib.hid hiK
          have HSM := Lib.hid hsm
          obtain ⟨u1, hu1⟩ : ∃ u1, sl.length = u1 := ⟨_, rfl⟩
          have HU1 := Lib.hid hu1
          rw [hu1] at p4 o4
          have hdrew := hr.drew
          obtain ⟨-, r5⟩ := HP1.out.slabs hdrew.skip.skip hs1 hiK
          obtain ⟨-, r6⟩ := HP2.out.slabs hdrew.skip.skip.swap hs2 hiK
          simp only at r5 r6
          have R1 : Hid (IntsSrc wr.drew (.slice B1 u1 e1) sl) := by show IntsSrc _ (.slice B1 u1 e1) sl; rw [← hu1]; exact r5
          have R3 : Hid (IntsSrc wr.drew (.slice B3 u1 e3) sl) := by show IntsSrc _ (.slice B3 u1 e3) sl; rw [← hu1]; exact r6
          have HD := Lib.hid hdrew
          clear hs1 hs2 hiK hsm hm1 hu1 r1 r3 r5 r6 z0 z1 z2 y0 y1 y2 hdrew
          go_wp2_with fail
          go_region_held3 (fun w' => (w'.cell? ⟨b, 3, none⟩ = some (.slice (some ⟨g1, 0, none⟩) l c2) ∧ w'.cell? ⟨b + 1, 3, none⟩ = some (.slice (some ⟨g2, 0, none⟩) l d2)) ∧ (w'.cell? ⟨g1, i * 5, none⟩ = some (.int .i64 ni) ∧ w'.cell? ⟨g1, i * 5 + 1, none⟩ = some (.int .i64 no) ∧ w'.cell? ⟨g1, i * 5 + 2, none⟩ = some (.bool nf) ∧ w'.cell? ⟨g1, i * 5 + 3, none⟩ = some (.bool nv) ∧ w'.cell? ⟨g1, i * 5 + 4, none⟩ = some (.slice B1 u1 e1)) ∧ (w'.cell? ⟨g2, i * 5, none⟩ = some (.int .i64 ni) ∧ w'.cell? ⟨g2, i * 5 + 1, none⟩ = some (.int .i64 no) ∧ w'.cell? ⟨g2, i * 5 + 2, none⟩ = some (.bool nf) ∧ w'.cell? ⟨g2, i * 5 + 3, none⟩ = some (.bool nv) ∧ w'.cell? ⟨g2, i * 5 + 4, none⟩ = some (.slice B3 u1 e3))) (first | (refine ⟨⟨?_, ?_⟩, ⟨?_, ?_, ?_, ?_, ?_⟩, ⟨?_, ?_, ?_, ?_, ?_⟩⟩ <;> assumption) | go_keep)
            (first | (go_at_call 31; refine (eqInts_yes R1.out R3.out (by have := HSM.out; omega) rfl HD.out).mono ?_; rintro e w5 ⟨rfl, h5⟩; obtain ⟨⟨z0, z1, z2, z3⟩, -⟩ := boxK h5; obtain ⟨⟨y0, y1, y2, y3⟩, -⟩ := boxK h5.skip; obtain ⟨⟨gg1, hg1, p0, p1, p2, p3, p4, -⟩, r1⟩ := HP1.out.slabs h5.skip.skip HS1.out HIK.out; cases hg1; obtain ⟨⟨gg2, hg2, o0, o1, o2, o3, o4, -⟩, r3⟩ := HP2.out.slabs h5.skip.skip.swap HS2.out HIK.out; cases hg2; simp only at p0 p1 p2 p3 p4 o0 o1 o2 o3 o4; rw [HU1.out] at p4 o4))
          go_wp2_with fail
          exact ⟨⟨i + 1, by go_num, by omega, h5⟩, by simp [intOf]; omega⟩
        · have hnl2 : ¬ (i : Int) < (l : Int) := by omega
          go_wp2_with fail
          go_ret
          exact ⟨rfl, hr.skip.skip⟩
end
end Go.Proofs.Ytigakendeghoaaa.See
