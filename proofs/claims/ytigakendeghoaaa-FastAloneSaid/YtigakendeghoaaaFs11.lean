/-
  Texts of this claim, joined. No condition.
-/
import Derived.Test.YtigakendeghoaaaFs6
import Derived.Test.YtigakendeghoaaaFs10
import Derived.Test.YtigakendeghoaaaFs5
import Derived.Test.YtigakendeghoaaaFs7
import Derived.Deep.RegionWith
import Derived.Deep.QuietTactic
import Derived.Test.YtigakendeghoaaaFs8
import Derived.Test.YtigakendeghoaaaFs4
/-
  wainscotref00.EqInts answers whether two lists of numbers are one.
-/
namespace Go.Proofs.Ytigakendeghoaaa
open Go.RowKit

theorem take_eq_of {a b : List Int} {k : Nat} {x y : Int} (ha : a[k]? = some x) (hb : b[k]? = some y) (h : a.take k = b.take k) (hxy : x = y) : a.take (k + 1) = b.take (k + 1) := by
  rw [List.take_add_one, List.take_add_one, ha, hb, h, hxy]
set_option maxHeartbeats 1000000 in
theorem eqInts_spec {w : World} {v1 v2 : Value} {l1 l2 : List Int} (h1 : IntsSrc w v1 l1) (h2 : IntsSrc w v2 l2) (hl1 : l1.length ≤ 60000) (hl2 : l2.length ≤ 60000) :
    Calls Try.prog 31 #[v1, v2] w fun e w' => e = .returned (.bool (decide (l1 = l2))) ∧ ∃ n, w' = w.drewN n := by
  have f1 : ∃ A c, v1 = .slice A l1.length c := by
    rcases h1.2 with ⟨rfl, h0⟩ | ⟨a, c, rfl, _⟩
    · exact ⟨none, 0, by rw [h0]⟩
    · exact ⟨_, c, rfl⟩
  have f2 : ∃ A c, v2 = .slice A l2.length c := by
    rcases h2.2 with ⟨rfl, h0⟩ | ⟨a, c, rfl, _⟩
    · exact ⟨none, 0, by rw [h0]⟩
    · exact ⟨_, c, rfl⟩
  obtain ⟨A1, c1, rfl⟩ := f1
  obtain ⟨A2, c2, rfl⟩ := f2
  by_cases hl : l1.length = l2.length
  · have H1 := Lib.hid h1
    have H2 := Lib.hid h2
    clear h1 h2
    have hb : ((l1.length : Int) != (l2.length : Int)) = false := by rw [hl]; simp
    have HL := Lib.hid hl
    clear hl
    go_enter Try.func31, Try.ntmps31
    go_wp2_with fail
    go_loopw [5] (fun k wr => ∃ i : Nat, i ≤ l1.length ∧ k = .int .i64 i ∧ l1.take i = l2.take i ∧ ∃ n, wr = w.drewN n) (fun k _ => l1.length - (intOf k).toNat)
    case atStart => exact ⟨0, Nat.zero_le _, rfl, by simp, 0, rfl⟩
    case round =>
      obtain ⟨i, hi, rfl, hT, nq0, rfl⟩ := hrel
      have HT := Lib.hid hT
      clear hT
      by_cases hlt : i < l1.length
      · rcases H1.out.2 with ⟨_, h0⟩ | ⟨a1, k1, he1, hc1⟩
        · omega
        rcases H2.out.2 with ⟨_, h0⟩ | ⟨a2, k2, he2, hc2⟩
        · have := HL.out; omega
        cases he1
        cases he2
        obtain ⟨x, hx⟩ : ∃ x, l1[i]? = some x := ⟨_, List.getElem?_eq_getElem hlt⟩
        obtain ⟨y, hy⟩ : ∃ y, l2[i]? = some y := ⟨_, List.getElem?_eq_getElem (by have := HL.out; omega)⟩
        have cx := hc1 i _ (ints_get hx)
        have cy := hc2 i _ (ints_get hy)
        have i0 : (0 : Int) ≤ (i : Int) := by omega
        have i1 : (i : Int) < (l1.length : Int) := by omega
        have i2 : (i : Int) < (l2.length : Int) := by have := HL.out; omega
        have HX := Lib.hid hx
        have HY := Lib.hid hy
        clear hx hy hc1 hc2
        by_cases hxy : x = y
        · have hxb : (x != y) = false := by simpa using hxy
          have HXY := Lib.hid hxy
          clear hxy
          go_wp2_with fail
          go_quiet (fail)
          go_wp2_with fail
          go_roundw
          case rel => exact ⟨i + 1, by omega, by go_num, take_eq_of HX.out HY.out HT.out HXY.out, nq0 + nq, by first | rfl | rw [World.drewN_drewN]⟩
          case measure => simp [intOf]; omega
        · have hxb : (x != y) = true := by simpa using hxy
          have HXY := Lib.hid hxy
          clear hxy
          go_wp2_with fail
          go_quiet (fail)
          go_wp2_with fail
          go_ret
          refine ⟨?_, nq0 + nq, by first | rfl | rw [World.drewN_drewN]⟩
          have : l1 ≠ l2 := fun he => HXY.out (by have := HX.out; rw [he, HY.out] at this; exact (Option.some.inj this).symm)
          rw [decide_eq_false this]; rfl
      · obtain rfl : i = l1.length := by omega
        go_wp2_with fail
        go_ret
        refine ⟨?_, _, rfl⟩
        have : l1 = l2 := by
          have h := HT.out
          rw [List.take_of_length_le (Nat.le_refl _), HL.out, List.take_of_length_le (Nat.le_refl _)] at h
          exact h
        rw [decide_eq_true this]; rfl
  · have hb : ((l1.length : Int) != (l2.length : Int)) = true := by simp; omega
    have hne : l1 ≠ l2 := fun he => hl (by rw [he])
    have HN := Lib.hid hne
    clear hne hl h1 h2
    go_enter Try.func31, Try.ntmps31
    go_wp2_with fail
    go_ret
    exact ⟨by rw [decide_eq_false HN.out]; rfl, 0, rfl⟩
section
variable {W : World} {m : List (Nat × Obj)} {w : World}
theorem eqInts_yes {v1 v2 : Value} {l1 l2 : List Int} (h1 : IntsSrc w v1 l1) (h2 : IntsSrc w v2 l2) (hl1 : l1.length ≤ 60000) (he : l1 = l2) (h : Own W m w) :
    Calls Try.prog 31 #[v1, v2] w fun e w' => e = .returned (.bool true) ∧ Own W m w' := by
  subst he
  refine (eqInts_spec h1 h2 hl1 hl1).mono ?_
  rintro e w' ⟨rfl, n, rfl⟩
  exact ⟨by simp, h.drewN n⟩
end
end Go.Proofs.Ytigakendeghoaaa

/-
  Contract: wainscotref21.Same of two values that are one core. No condition.
-/
namespace Go.Proofs.Ytigakendeghoaaa.See
open Go.RowKit
attribute [local go_sem ↓] Go.wp_at_zero Go.wp_at_succ
/-- lists that are short -/
def SmallC (K : CoreP) : Prop := K.slots.length ≤ 100 ∧ K.slabs.length ≤ 100 ∧ K.shelf.length ≤ 100 ∧ (∀ s ∈ K.slots, s.list.length ≤ 100 ∧ s.parts.length ≤ 100) ∧ ∀ s ∈ K.slabs, s.first.length ≤ 100
theorem walk_len {sh : Nat → Int → Option Int} {l : List Nat} : ∀ {n : Nat} {out r : List Int} {i : Int}, walk sh l n out i = some r → r.length ≤ out.length + n
  | 0, _, _, _, h => by cases h
  | n + 1, out, r, i, h => by
    unfold walk at h
    split at h
    · cases h; omega
    · split at h
      · cases h
      · split at h
        · cases h
        · split at h
          · cases h
          · have := walk_len h
            simp at this
            omega
theorem chain_len {of : Nat → Option Int} {nx : Int → Nat} {S : Nat} : ∀ {n : Nat} {out r : List Int} {w : Nat}, chain of nx S n out w = some r → r.length ≤ out.length + n
  | 0, _, _, _, h => by cases h
  | n + 1, out, r, w, h => by
    unfold chain at h
    split at h
    · cases h
    · split at h
      · cases h
      · split at h
        · cases h; omega
        · have := chain_len h
          simp at this
          omega
theorem listP_len {c : Ch} {g : List Nat} {s i : Int} {l : List Int} (h : listP c g s i = some l) : l.length ≤ c.O + 1 := by
  unfold listP at h
  split at h
  · have := walk_len h
    simp at this
    omega
  · cases h
theorem upto_mem {α : Type} {f : Nat → Option α} {n : Nat} {l : List α} (h : upto f n = some l) {x : α} (hx : x ∈ l) : ∃ i, i < n ∧ f i = some x := by
  obtain ⟨i, hi, rfl⟩ := List.getElem_of_mem hx
  have hl := upto_len h
  exact ⟨i, by omega, by rw [upto_get h i (by omega), List.getElem?_eq_getElem hi]⟩
theorem see_small {c : Ch} {g : List Nat} {K : CoreP} (hc : c.C ≤ 8 ∧ c.S ≤ 32 ∧ c.O ≤ 16) (h : seeP c g = some K) : SmallC K := by
  unfold seeP at h
  split at h <;> first | (cases h; done) | skip
  rename_i a ha
  split at h <;> first | (cases h; done) | skip
  rename_i l hl
  split at h <;> first | (cases h; done) | skip
  rename_i b hb
  simp only [Option.some.injEq] at h
  subst h
  refine ⟨by rw [upto_len ha]; omega, by rw [upto_len hb]; omega, ?_, fun s hs => ?_, fun s hs => ?_⟩
  · have := chain_len hl
    simp at this
    show l.length ≤ 100
    omega
  · obtain ⟨i, hi, hf⟩ := upto_mem ha hs
    unfold slotP at hf
    split at hf <;> first | (cases hf; done) | skip
    split at hf <;> first | (cases hf; done) | skip
    rename_i l1 hl1
    split at hf <;> first | (cases hf; done) | skip
    rename_i l2 hl2
    simp only [Option.some.injEq] at hf
    subst hf
    constructor
    · show l1.length ≤ 100
      split at hl1
      · simp only [Option.some.injEq] at hl1
        subst hl1
        simp
      · have := listP_len hl1
        omega
    · show l2.length ≤ 100
      have := chain_len hl2
      simp at this
      omega
  · obtain ⟨i, hi, hf⟩ := upto_mem hb hs
    unfold slabP at hf
    split at hf <;> first | (cases hf; done) | skip
    split at hf <;> first | (cases hf; done) | skip
    split at hf <;> first | (cases hf; done) | skip
    rename_i l1 hl1
    simp only [Option.some.injEq] at hf
    subst hf
    have := listP_len hl1
    show l1.length ≤ 100
    omega
theorem flat_get {α : Type} (f : α → List Value) (n : Nat) (hf : ∀ x, (f x).length = n) : ∀ {L : List α} {i j : Nat} {x : α}, L[i]? = some x → j < n → (L.flatMap f)[i * n + j]? = (f x)[j]?
  | [], i, j, x, h, _ => by simp at h
  | y :: L, 0, j, x, h, hj => by
    simp at h
    subst h
    rw [List.flatMap_cons, Nat.zero_mul, Nat.zero_add, List.getElem?_append_left (by rw [hf]; exact hj)]
  | y :: L, i + 1, j, x, h, hj => by
    rw [List.flatMap_cons, List.getElem?_append_right (by rw [hf, Nat.succ_mul]; omega), hf, show (i + 1) * n + j - n = i * n + j by rw [Nat.succ_mul]; omega]
    exact flat_get f n hf (by simpa using h) hj
theorem flatMap_split {α : Type} (f : α → List (Nat × Obj)) : ∀ {L : List α} {x : α}, x ∈ L → ∃ r, (L.flatMap f).Perm (f x ++ r)
  | y :: L, x, h => by
    rcases List.mem_cons.1 h with rfl | h
    · exact ⟨L.flatMap f, by rw [List.flatMap_cons]⟩
    · obtain ⟨r, hr⟩ := flatMap_split f h
      refine ⟨f y ++ r, ?_⟩
      rw [List.flatMap_cons]
      exact (List.Perm.append_left (f y) hr).trans (perm_swap _ _ _)
section
variable {W w : World} {M m bs : List (Nat × Obj)} {b : Nat}
theorem slots_at {L : List SlotN} {A : Option Addr} {n cap : Nat} {b0 : List (Nat × Obj)} (h : SlO true 78 4 (.slice A n cap) n (slotCells L) b0) (hO : Own W (b0 ++ M) w) {i : Nat} {s : SlotN} (hs : L[i]? = some s) (hi : i < n) :
    ∃ g, A = some ⟨g, 0, none⟩ ∧ w.cell? ⟨g, i * 4, none⟩ = some (.int .i64 s.x.slab) ∧ w.cell? ⟨g, i * 4 + 1, none⟩ = some s.lv ∧ w.cell? ⟨g, i * 4 + 2, none⟩ = some (.int .u64 s.x.turn) ∧ w.cell? ⟨g, i * 4 + 3, none⟩ = some s.pv ∧ g < w.heap.size := by
  obtain ⟨g, cap', cur, hv, -⟩ := h.form (by omega)
  simp only [Value.slice.injEq, true_and] at hv
  obtain ⟨rfl, rfl⟩ := hv
  have hg := fun j (hj : j < 4) => flat_get SlotN.cells 4 (fun _ => rfl) hs hj
  exact ⟨g, rfl, h.cell hO rfl (hg 0 (by omega)), h.cell hO rfl (hg 1 (by omega)), h.cell hO rfl (hg 2 (by omega)), h.cell hO rfl (hg 3 (by omega)), h.lt hO rfl⟩
theorem slabs_at {L : List SlabN} {A : Option Addr} {n cap : Nat} {b0 : List (Nat × Obj)} (h : SlO true 82 5 (.slice A n cap) n (slabCells L) b0) (hO : Own W (b0 ++ M) w) {i : Nat} {s : SlabN} (hs : L[i]? = some s) (hi : i < n) :
    ∃ g, A = some ⟨g, 0, none⟩ ∧ w.cell? ⟨g, i * 5, none⟩ = some (.int .i64 s.x.counts.inuse) ∧ w.cell? ⟨g, i * 5 + 1, none⟩ = some (.int .i64 s.x.counts.objects) ∧ w.cell? ⟨g, i * 5 + 2, none⟩ = some (.bool s.x.counts.frozen) ∧ w.cell? ⟨g, i * 5 + 3, none⟩ = some (.bool s.x.counts.live) ∧ w.cell? ⟨g, i * 5 + 4, none⟩ = some s.v ∧ g < w.heap.size := by
  obtain ⟨g, cap', cur, hv, -⟩ := h.form (by omega)
  simp only [Value.slice.injEq, true_and] at hv
  obtain ⟨rfl, rfl⟩ := hv
  have hg := fun j (hj : j < 5) => flat_get SlabN.cells 5 (fun _ => rfl) hs hj
  exact ⟨g, rfl, h.cell hO rfl (hg 0 (by omega)), h.cell hO rfl (hg 1 (by omega)), h.cell hO rfl (hg 2 (by omega)), h.cell hO rfl (hg 3 (by omega)), h.cell hO rfl (hg 4 (by omega)), h.lt hO rfl⟩
theorem slots_src {L : List SlotN} (hk : SlotsOk L) (hO : Own W (slotBlocks L ++ M) w) {s : SlotN} (hs : s ∈ L) : IntsSrc w s.lv s.x.list ∧ IntsSrc w s.pv s.x.parts := by
  obtain ⟨r, hr⟩ := flatMap_split (fun s : SlotN => s.lb ++ s.pb) hs
  obtain ⟨h1, h2⟩ := hk s hs
  have h3 : Own W (s.lb ++ (s.pb ++ (r ++ M))) w := by
    have := hO.perm (List.Perm.append_right M hr)
    simpa [List.append_assoc] using this
  exact ⟨h1.src h3, h2.src h3.swap⟩
theorem slabs_src {L : List SlabN} (hk : SlabsOk L) (hO : Own W (slabBlocks L ++ M) w) {s : SlabN} (hs : s ∈ L) : IntsSrc w s.v s.x.first := by
  obtain ⟨r, hr⟩ := flatMap_split SlabN.b hs
  have h3 : Own W (s.b ++ (r ++ M)) w := by
    have := hO.perm (List.Perm.append_right M hr)
    simpa [List.append_assoc] using this
  exact SlO.src (hk s hs) h3
/-- a core's parts, wherever its blocks lie -/
structure Parts (K : CoreP) (A0 A1 A2 : Option Addr) (c0 c1 c2 : Nat) (bs : List (Nat × Obj)) (Ls : List SlotN) (Ll : List SlabN) : Prop where
  es : Ls.map (·.x) = K.slots
  el : Ll.map (·.x) = K.slabs
  slots : ∀ {W w M}, Own W (bs ++ M) w → ∀ {i s}, Ls[i]? = some s → i < K.slots.length → (∃ g, A0 = some ⟨g, 0, none⟩ ∧ w.cell? ⟨g, i * 4, none⟩ = some (.int .i64 s.x.slab) ∧ w.cell? ⟨g, i * 4 + 1, none⟩ = some s.lv ∧ w.cell? ⟨g, i * 4 + 2, none⟩ = some (.int .u64 s.x.turn) ∧ w.cell? ⟨g, i * 4 + 3, none⟩ = some s.pv ∧ g < w.heap.size) ∧ IntsSrc w s.lv s.x.list ∧ IntsSrc w s.pv s.x.parts
  slabs : ∀ {W w M}, Own W (bs ++ M) w → ∀ {i s}, Ll[i]? = some s → i < K.slabs.length → (∃ g, A2 = some ⟨g, 0, none⟩ ∧ w.cell? ⟨g, i * 5, none⟩ = some (.int .i64 s.x.counts.inuse) ∧ w.cell? ⟨g, i * 5 + 1, none⟩ = some (.int .i64 s.x.counts.objects) ∧ w.cell? ⟨g, i * 5 + 2, none⟩ = some (.bool s.x.counts.frozen) ∧ w.cell? ⟨g, i * 5 + 3, none⟩ = some (.bool s.x.counts.live) ∧ w.cell? ⟨g, i * 5 + 4, none⟩ = some s.v ∧ g < w.heap.size) ∧ IntsSrc w s.v s.x.first
  shelf : ∀ {W w M}, Own W (bs ++ M) w → IntsSrc w (.slice A1 K.shelf.length c1) K.shelf
theorem core_parts {v : Value} {K : CoreP} (h : CoreO v K bs) : ∃ A0 A1 A2 c0 c1 c2 Ls Ll, v = .agg #[.slice A0 K.slots.length c0, .slice A1 K.shelf.length c1, .bool K.locked, .slice A2 K.slabs.length c2] ∧ Parts K A0 A1 A2 c0 c1 c2 bs Ls Ll := by
  obtain ⟨Ls, sv, b0, hv, b1, Ll, lv, b2, rfl, es, so, s1, h1, el, lo, l1, rfl⟩ := h
  have ns : Ls.length = K.slots.length := by rw [← es, List.length_map]
  have nl : Ll.length = K.slabs.length := by rw [← el, List.length_map]
  unfold SlotsV at s1
  unfold SlabsV at l1
  rw [ns] at s1
  rw [nl] at l1
  obtain ⟨A0, c0, rfl, -, -⟩ := s1.slice
  obtain ⟨A1, c1, rfl, -, -⟩ := SlO.slice h1
  obtain ⟨A2, c2, rfl, -, -⟩ := l1.slice
  refine ⟨A0, A1, A2, c0, c1, c2, Ls, Ll, rfl, ⟨es, el, fun hO i s hs hi => ?_, fun hO i s hs hi => ?_, fun hO => ?_⟩⟩
  · simp only [List.append_assoc] at hO
    exact ⟨slots_at s1 hO hs hi, slots_src so hO.dropL (List.mem_of_getElem? hs)⟩
  · simp only [List.append_assoc] at hO
    have h3 := hO.dropL.dropL.dropL
    exact ⟨slabs_at l1 h3 hs hi, slabs_src lo h3.dropL (List.mem_of_getElem? hs)⟩
  · simp only [List.append_assoc] at hO
    exact SlO.src h1 hO.dropL.dropL
theorem src_slice {v : Value} {l : List Int} (h : IntsSrc w v l) : ∃ A c, v = .slice A l.length c := by
  rcases h.2 with ⟨rfl, hn⟩ | ⟨a, c, rfl, -⟩
  · exact ⟨none, 0, by rw [hn]⟩
  · exact ⟨_, _, rfl⟩
set_option maxRecDepth 100000 in
set_option maxHeartbeats 8000000 in
theorem same_spec {v1 v2 : Value} {K : CoreP} {bs1 bs2 : List (Nat × Obj)} (h : Own W (bs1 ++ (bs2 ++ m)) w) (h1 : CoreO v1 K bs1) (h2 : CoreO v2 K bs2) (hs : SmallC K) :
    Calls Try.prog 38 #[v1, v2] w fun e w' => e = .returned (.bool true) ∧ Own W (bs1 ++ (bs2 ++ m)) w' := by
  obtain ⟨A0, A1, A2, c0, c1, c2, Ls, Ll, rfl, P1⟩ := core_parts h1
  obtain ⟨D0, D1, D2, d0, d1, d2, Ms, Ml, rfl, P2⟩ := core_parts h2
  generalize K.locked = lk at h1 h2 ⊢
  have HP1 := Lib.hid P1
  have HP2 := Lib.hid P2
  have HS := Lib.hid hs
  obtain ⟨n, hn⟩ : ∃ n, K.slots.length = n := ⟨_, rfl⟩
  obtain ⟨l, hl⟩ : ∃ l, K.slabs.length = l := ⟨_, rfl⟩
  obtain ⟨q, hq⟩ : ∃ q, K.shelf.length = q := ⟨_, rfl⟩
  have hn1 : n ≤ 100 := by rw [← hn]; exact hs.1
  have hl1 : l ≤ 100 := by rw [← hl]; exact hs.2.1
  have HN := Lib.hid hn
  have HL := Lib.hid hl
  have HQ := Lib.hid hq
  rw [hn, hl, hq]
  have hk := (h.new (.cells #[.slice A0 n c0, .slice A1 q c1, .bool lk, .slice A2 l c2] 40)).new (.cells #[.slice D0 n d0, .slice D1 q d1, .bool lk, .slice D2 l d2] 40)
  obtain ⟨b, hb⟩ : ∃ b, w.heap.size = b := ⟨_, rfl⟩
  simp only [World.size_alloc] at hk
  rw [hb] at hk
  have hk : Own W (kBlk (b + 1) (.slice D0 n d0) (.slice D1 q d1) lk (.slice D2 l d2) :: (kBlk b (.slice A0 n c0) (.slice A1 q c1) lk (.slice A2 l c2) :: (bs1 ++ (bs2 ++ m)))) _ := hk
  obtain ⟨⟨z0, z1, z2, z3⟩, -⟩ := boxK hk
  obtain ⟨⟨y0, y1, y2, y3⟩, -⟩ := boxK hk.skip
  have hq1 := HP1.out.shelf hk.skip.skip
  have hq2 := HP2.out.shelf (hk.skip.skip.swap)
  rw [hq] at hq1 hq2
  have HQ1 := Lib.hid hq1
  have HQ2 := Lib.hid hq2
  have HKK := Lib.hid hk
  clear hs h1 h2 P1 P2 hn hl hq hk hq1 hq2 h
  go_enter Try.func38, Try.ntmps38
  go_wp2_with fail
  refine (eqInts_yes HQ1.out HQ2.out (by have := HS.out.2.2.1; omega) rfl HKK.out).mono ?_
  rintro e w2 ⟨rfl, h2⟩
  clear y0 y1 y2 y3 z0 z1 z2 z3
  obtain ⟨⟨z0, z1, z2, z3⟩, -⟩ := boxK h2
  obtain ⟨⟨y0, y1, y2, y3⟩, -⟩ := boxK h2.skip
  go_wp2_with fail
  have H2 := Lib.hid h2
  clear z0 z1 z2 z3 y0 y1 y2 y3 h2
  go_loopw [5] (fun iv wr => ∃ i : Nat, iv = .int .i64 i ∧ i ≤ n ∧ Own W (kBlk (b + 1) (.slice D0 n d0) (.slice D1 q d1) lk (.slice D2 l d2) :: (kBlk b (.slice A0 n c0) (.slice A1 q c1) lk (.slice A2 l c2) :: (bs1 ++ (bs2 ++ m)))) wr) (fun iv _ => n - (intOf iv).toNat)
  case atStart => exact ⟨0, rfl, by omega, H2.out⟩
  case round =>
    clear H2
    obtain ⟨i, rfl, hi, hr⟩ := hrel
    obtain ⟨⟨z0, z1, z2, z3⟩, -⟩ := boxK hr
    obtain ⟨⟨y0, y1, y2, y3⟩, -⟩ := boxK hr.skip
    by_cases hlt : i < n
    · have hlti : (i : Int) < n := by omega
      have hi0 : (0 : Int) ≤ i := by omega
      obtain ⟨⟨⟨sx, sl, st, sp⟩, lv1, lb1, pv1, pb1⟩, hs1⟩ : ∃ s, Ls[i]? = some s := ⟨_, List.getElem?_eq_getElem (by have := congrArg List.length HP1.out.es; rw [List.length_map, HN.out] at this; omega)⟩
      obtain ⟨⟨x2, lv2, lb2, pv2, pb2⟩, hs2⟩ : ∃ s, Ms[i]? = some s := ⟨_, List.getElem?_eq_getElem (by have := congrArg List.length HP2.out.es; rw [List.length_map, HN.out] at this; omega)⟩
      have hx : x2 = ⟨sx, sl, st, sp⟩ := by
        have e1 := congrArg (fun l => l[i]?) (HP1.out.es.trans HP2.out.es.symm)
        simp only [List.getElem?_map, hs1, hs2, Option.map_some, Option.some.injEq] at e1
        exact e1.symm
      subst hx
      have hiK : i < K.slots.length := by rw [HN.out]; exact hlt
      have hm1 : (⟨sx, sl, st, sp⟩ : SlotP) ∈ K.slots := by
        rw [← HP1.out.es]
        exact List.mem_map.2 ⟨_, List.mem_of_getElem? hs1, rfl⟩
      have hsm := HS.out.2.2.2.1 _ hm1
      obtain ⟨⟨g1, rfl, p0, p1, p2, p3, gl1⟩, r1, r2⟩ := HP1.out.slots hr.skip.skip hs1 hiK
      obtain ⟨⟨g2, rfl, o0, o1, o2, o3, gl2⟩, r3, r4⟩ := HP2.out.slots hr.skip.skip.swap hs2 hiK
      simp only at p0 p1 p2 p3 o0 o1 o2 o3 r1 r2 r3 r4 hsm
      obtain ⟨B1, e1, rfl⟩ := src_slice r1
      obtain ⟨B2, e2, rfl⟩ := src_slice r2
      obtain ⟨B3, e3, rfl⟩ := src_slice r3
      obtain ⟨B4, e4, rfl⟩ := src_slice r4
      have HS1 := Lib.hid hs1
      have HS2 := Lib.hid hs2
      have HIK := Lib.hid hiK
      have HSM := Lib.hid hsm
      obtain ⟨u1, hu1⟩ : ∃ u1, sl.length = u1 := ⟨_, rfl⟩
      obtain ⟨u2, hu2⟩ : ∃ u2, sp.length = u2 := ⟨_, rfl⟩
      have HU1 := Lib.hid hu1
      have HU2 := Lib.hid hu2
      rw [hu1] at p1 o1
      rw [hu2] at p3 o3
      clear hs1 hs2 hiK hsm hm1 hu1 hu2 r1 r2 r3 r4 z1 z2 z3 y1 y2 y3
      have yb : b < wr.heap.size := hr.skip.lt List.mem_cons_self
      have zb : b + 1 < wr.heap.size := hr.lt List.mem_cons_self
      go_wp2_with fail
      go_region_held3 (fun w' => (w'.cell? ⟨b, 0, none⟩ = some (.slice (some ⟨g1, 0, none⟩) n c0) ∧ w'.cell? ⟨b + 1, 0, none⟩ = some (.slice (some ⟨g2, 0, none⟩) n d0)) ∧ (w'.cell? ⟨g1, i * 4, none⟩ = some (.int .i64 sx) ∧ w'.cell? ⟨g1, i * 4 + 1, none⟩ = some (.slice B1 u1 e1) ∧ w'.cell? ⟨g1, i * 4 + 2, none⟩ = some (.int .u64 (st : Int)) ∧ w'.cell? ⟨g1, i * 4 + 3, none⟩ = some (.slice B2 u2 e2)) ∧ (w'.cell? ⟨g2, i * 4, none⟩ = some (.int .i64 sx) ∧ w'.cell? ⟨g2, i * 4 + 1, none⟩ = some (.slice B3 u1 e3) ∧ w'.cell? ⟨g2, i * 4 + 2, none⟩ = some (.int .u64 (st : Int)) ∧ w'.cell? ⟨g2, i * 4 + 3, none⟩ = some (.slice B4 u2 e4))) (first | (refine ⟨⟨?_, ?_⟩, ⟨?_, ?_, ?_, ?_⟩, ⟨?_, ?_, ?_, ?_⟩⟩ <;> assumption) | go_keep) (fail)
      · have h3 := ((hr.new (.cells #[.int .i64 sx, .slice B1 u1 e1, .int .u64 st, .slice B2 u2 e2] 78)).new (.cells #[.int .i64 sx, .slice B3 u1 e3, .int .u64 st, .slice B4 u2 e4] 78)).drew
        obtain ⟨w3, hw3⟩ : ∃ w3, ((wr.alloc (.cells #[.int .i64 sx, .slice B1 u1 e1, .int .u64 st, .slice B2 u2 e2] 78)).alloc (.cells #[.int .i64 sx, .slice B3 u1 e3, .int .u64 st, .slice B4 u2 e4] 78)).drew = w3 := ⟨_, rfl⟩
        rw [World.size_alloc] at h3
        rw [hw3] at h3 ⊢
        have m0 := h3.cell List.mem_cons_self
        have m1 := h3.cell (List.mem_cons_of_mem _ List.mem_cons_self)
        have m00 := m0 0
        have m01 := m0 1
        have m02 := m0 2
        have m03 := m0 3
        have m10 := m1 0
        have m11 := m1 1
        have m12 := m1 2
        have m13 := m1 3
        simp at m00 m01 m02 m03 m10 m11 m12 m13
        have h4 := h3.skip.skip
        obtain ⟨-, r1, r2⟩ := HP1.out.slots h4.skip.skip HS1.out HIK.out
        obtain ⟨-, r3, r4⟩ := HP2.out.slots h4.skip.skip.swap HS2.out HIK.out
        simp only at r1 r2 r3 r4
        have R1 : Hid (IntsSrc w3 (.slice B1 u1 e1) sl) := by show IntsSrc w3 (.slice B1 u1 e1) sl; rw [← HU1.out]; exact r1
        have R3 : Hid (IntsSrc w3 (.slice B3 u1 e3) sl) := by show IntsSrc w3 (.slice B3 u1 e3) sl; rw [← HU1.out]; exact r3
        have H3 := Lib.hid h3
        clear hw3 m0 m1 r1 r2 r3 r4 p0 p1 p2 p3 o0 o1 o2 o3 y0 z0 h3 h4 hr
        go_wp2_with fail
        refine (eqInts_yes R1.out R3.out (by have := HSM.out.1; omega) rfl H3.out).mono ?_
        rintro e w4 ⟨rfl, h3⟩
        clear m00 m01 m02 m03 m10 m11 m12 m13
        have m0 := h3.cell List.mem_cons_self
        have m1 := h3.cell (List.mem_cons_of_mem _ List.mem_cons_self)
        have m00 := m0 0
        have m01 := m0 1
        have m02 := m0 2
        have m03 := m0 3
        have m10 := m1 0
        have m11 := m1 1
        have m12 := m1 2
        have m13 := m1 3
        simp at m00 m01 m02 m03 m10 m11 m12 m13
        have h4 := h3.skip.skip
        obtain ⟨-, r1, r2⟩ := HP1.out.slots h4.skip.skip HS1.out HIK.out
        obtain ⟨-, r3, r4⟩ := HP2.out.slots h4.skip.skip.swap HS2.out HIK.out
        simp only at r1 r2 r3 r4
        have R2 : Hid (IntsSrc w4 (.slice B2 u2 e2) sp) := by show IntsSrc w4 (.slice B2 u2 e2) sp; rw [← HU2.out]; exact r2
        have R4 : Hid (IntsSrc w4 (.slice B4 u2 e4) sp) := by show IntsSrc w4 (.slice B4 u2 e4) sp; rw [← HU2.out]; exact r4
        have H4 := Lib.hid h3
        clear m0 m1 r1 r2 r3 r4 h3 h4
        go_wp2_with fail
        refine (eqInts_yes R2.out R4.out (by have := HSM.out.2; omega) rfl H4.out).mono ?_
        rintro e w5 ⟨rfl, h5⟩
        clear m00 m01 m02 m03 m10 m11 m12 m13
        go_wp2_with fail
        exact ⟨⟨i + 1, by go_num, by omega, h5.skip.skip⟩, by simp [intOf]; omega⟩
      · have h3 := ((hr.new (.cells #[.int .i64 sx, .slice B3 u1 e3, .int .u64 st, .slice B4 u2 e4] 78)).new (.cells #[.int .i64 sx, .slice B1 u1 e1, .int .u64 st, .slice B2 u2 e2] 78)).drew
        obtain ⟨w3, hw3⟩ : ∃ w3, ((wr.alloc (.cells #[.int .i64 sx, .slice B3 u1 e3, .int .u64 st, .slice B4 u2 e4] 78)).alloc (.cells #[.int .i64 sx, .slice B1 u1 e1, .int .u64 st, .slice B2 u2 e2] 78)).drew = w3 := ⟨_, rfl⟩
        rw [World.size_alloc] at h3
        rw [hw3] at h3 ⊢
        have m0 := h3.cell List.mem_cons_self
        have m1 := h3.cell (List.mem_cons_of_mem _ List.mem_cons_self)
        have m00 := m0 0
        have m01 := m0 1
        have m02 := m0 2
        have m03 := m0 3
        have m10 := m1 0
        have m11 := m1 1
        have m12 := m1 2
        have m13 := m1 3
        simp at m00 m01 m02 m03 m10 m11 m12 m13
        have h4 := h3.skip.skip
        obtain ⟨-, r1, r2⟩ := HP1.out.slots h4.skip.skip HS1.out HIK.out
        obtain ⟨-, r3, r4⟩ := HP2.out.slots h4.skip.skip.swap HS2.out HIK.out
        simp only at r1 r2 r3 r4
        have R1 : Hid (IntsSrc w3 (.slice B1 u1 e1) sl) := by show IntsSrc w3 (.slice B1 u1 e1) sl; rw [← HU1.out]; exact r1
        have R3 : Hid (IntsSrc w3 (.slice B3 u1 e3) sl) := by show IntsSrc w3 (.slice B3 u1 e3) sl; rw [← HU1.out]; exact r3
        have H3 := Lib.hid h3
        clear hw3 m0 m1 r1 r2 r3 r4 p0 p1 p2 p3 o0 o1 o2 o3 y0 z0 h3 h4 hr
        go_wp2_with fail
        refine (eqInts_yes R1.out R3.out (by have := HSM.out.1; omega) rfl H3.out).mono ?_
        rintro e w4 ⟨rfl, h3⟩
        clear m00 m01 m02 m03 m10 m11 m12 m13
        have m0 := h3.cell List.mem_cons_self
        have m1 := h3.cell (List.mem_cons_of_mem _ List.mem_cons_self)
        have m00 := m0 0
        have m01 := m0 1
        have m02 := m0 2
        have m03 := m0 3
        have m10 := m1 0
        have m11 := m1 1
        have m12 := m1 2
        have m13 := m1 3
        simp at m00 m01 m02 m03 m10 m11 m12 m13
        have h4 := h3.skip.skip
        obtain ⟨-, r1, r2⟩ := HP1.out.slots h4.skip.skip HS1.out HIK.out
        obtain ⟨-, r3, r4⟩ := HP2.out.slots h4.skip.skip.swap HS2.out HIK.out
        simp only at r1 r2 r3 r4
        have R2 : Hid (IntsSrc w4 (.slice B2 u2 e2) sp) := by show IntsSrc w4 (.slice B2 u2 e2) sp; rw [← HU2.out]; exact r2
        have R4 : Hid (IntsSrc w4 (.slice B4 u2 e4) sp) := by show IntsSrc w4 (.slice B4 u2 e4) sp; rw [← HU2.out]; exact r4
        have H4 := Lib.hid h3
        clear m0 m1 r1 r2 r3 r4 h3 h4
        go_wp2_with fail
        refine (eqInts_yes R2.out R4.out (by have := HSM.out.2; omega) rfl H4.out).mono ?_
        rintro e w5 ⟨rfl, h5⟩
        clear m00 m01 m02 m03 m10 m11 m12 m13
        go_wp2_with fail
        exact ⟨⟨i + 1, by go_num, by omega, h5.skip.skip⟩, by simp [intOf]; omega⟩
    · have hnl : ¬ (i : Int) < (n : Int) := by omega
      have HR := Lib.hid hr
      clear hr z1 z2 y1 y2
      go_wp2_with fail
      obtain ⟨w0, hw0⟩ : ∃ w0 : World, w0 = wr := ⟨_, rfl⟩
      subst hw0
      go_loopw [8] (fun iv wr => ∃ i : Nat, iv = .int .i64 i ∧ i ≤ l ∧ Own W (kBlk (b + 1) (.slice D0 n d0) (.slice D1 q d1) lk (.slice D2 l d2) :: (kBlk b (.slice A0 n c0) (.slice A1 q c1) lk (.slice A2 l c2) :: (bs1 ++ (bs2 ++ m)))) wr) (fun iv _ => l - (intOf iv).toNat)
      case atStart => exact ⟨0, rfl, by omega, HR.out⟩
      case round =>
        clear HR z0 z3 y0 y3
        obtain ⟨i, rfl, hi, hr⟩ := hrel
        obtain ⟨⟨z0, z1, z2, z3⟩, -⟩ := boxK hr
        obtain ⟨⟨y0, y1, y2, y3⟩, -⟩ := boxK hr.skip
        by_cases hlt : i < l
        · have hlti : (i : Int) < l := by omega
          have hi0 : (0 : Int) ≤ i := by omega
          obtain ⟨⟨⟨⟨ni, no, nf, nv⟩, sl⟩, lv1, lb1⟩, hs1⟩ : ∃ s, Ll[i]? = some s := ⟨_, List.getElem?_eq_getElem (by have := congrArg List.length HP1.out.el; rw [List.length_map, HL.out] at this; omega)⟩
          obtain ⟨⟨x2, lv2, lb2⟩, hs2⟩ : ∃ s, Ml[i]? = some s := ⟨_, List.getElem?_eq_getElem (by have := congrArg List.length HP2.out.el; rw [List.length_map, HL.out] at this; omega)⟩
          have hx : x2 = ⟨⟨ni, no, nf, nv⟩, sl⟩ := by
            have e1 := congrArg (fun l => l[i]?) (HP1.out.el.trans HP2.out.el.symm)
            simp only [List.getElem?_map, hs1, hs2, Option.map_some, Option.some.injEq] at e1
            exact e1.symm
          subst hx
          have hiK : i < K.slabs.length := by rw [HL.out]; exact hlt
          have hm1 : (⟨⟨ni, no, nf, nv⟩, sl⟩ : SlabP) ∈ K.slabs := by
            rw [← HP1.out.el]
            exact List.mem_map.2 ⟨_, List.mem_of_getElem? hs1, rfl⟩
          have hsm := HS.out.2.2.2.2 _ hm1
          obtain ⟨⟨g1, rfl, p0, p1, p2, p3, p4, gl1⟩, r1⟩ := HP1.out.slabs hr.skip.skip hs1 hiK
          obtain ⟨⟨g2, rfl, o0, o1, o2, o3, o4, gl2⟩, r3⟩ := HP2.out.slabs hr.skip.skip.swap hs2 hiK
          simp only at p0 p1 p2 p3 p4 o0 o1 o2 o3 o4 r1 r3 hsm
          obtain ⟨B1, e1, rfl⟩ := src_slice r1
          obtain ⟨B3, e3, rfl⟩ := src_slice r3
          have HS1 := Lib.hid hs1
          have HS2 := Lib.hid hs2
          have HIK := Lib.hid hiK
          have HSM := Lib.hid hsm
          obtain ⟨u1, hu1⟩ : ∃ u1, sl.length = u1 := ⟨_, rfl⟩
          have HU1 := Lib.hid hu1
          rw [hu1] at p4 o4
          have hdrew := hr.drew
          obtain ⟨-, r5⟩ := HP1.out.slabs hdrew.skip.skip hs1 hiK
          obtain ⟨-, r6⟩ := HP2.out.slabs hdrew.skip.skip.swap hs2 hiK
          simp only at r5 r6
          have R1 : Hid (IntsSrc wr.drew (.slice B1 u1 e1) sl) := by show IntsSrc _ (.slice B1 u1 e1) sl; rw [← hu1]; exact r5
          have R3 : Hid (IntsSrc wr.drew (.slice B3 u1 e3) sl) := by show IntsSrc _ (.slice B3 u1 e3) sl; rw [← hu1]; exact r6
          have HD := Lib.hid hdrew
          clear hs1 hs2 hiK hsm hm1 hu1 r1 r3 r5 r6 z0 z1 z2 y0 y1 y2 hdrew
          go_wp2_with fail
          go_region_held3 (fun w' => (w'.cell? ⟨b, 3, none⟩ = some (.slice (some ⟨g1, 0, none⟩) l c2) ∧ w'.cell? ⟨b + 1, 3, none⟩ = some (.slice (some ⟨g2, 0, none⟩) l d2)) ∧ (w'.cell? ⟨g1, i * 5, none⟩ = some (.int .i64 ni) ∧ w'.cell? ⟨g1, i * 5 + 1, none⟩ = some (.int .i64 no) ∧ w'.cell? ⟨g1, i * 5 + 2, none⟩ = some (.bool nf) ∧ w'.cell? ⟨g1, i * 5 + 3, none⟩ = some (.bool nv) ∧ w'.cell? ⟨g1, i * 5 + 4, none⟩ = some (.slice B1 u1 e1)) ∧ (w'.cell? ⟨g2, i * 5, none⟩ = some (.int .i64 ni) ∧ w'.cell? ⟨g2, i * 5 + 1, none⟩ = some (.int .i64 no) ∧ w'.cell? ⟨g2, i * 5 + 2, none⟩ = some (.bool nf) ∧ w'.cell? ⟨g2, i * 5 + 3, none⟩ = some (.bool nv) ∧ w'.cell? ⟨g2, i * 5 + 4, none⟩ = some (.slice B3 u1 e3))) (first | (refine ⟨⟨?_, ?_⟩, ⟨?_, ?_, ?_, ?_, ?_⟩, ⟨?_, ?_, ?_, ?_, ?_⟩⟩ <;> assumption) | go_keep)
            (first | (go_at_call 31; refine (eqInts_yes R1.out R3.out (by have := HSM.out; omega) rfl HD.out).mono ?_; rintro e w5 ⟨rfl, h5⟩; obtain ⟨⟨z0, z1, z2, z3⟩, -⟩ := boxK h5; obtain ⟨⟨y0, y1, y2, y3⟩, -⟩ := boxK h5.skip; obtain ⟨⟨gg1, hg1, p0, p1, p2, p3, p4, -⟩, r1⟩ := HP1.out.slabs h5.skip.skip HS1.out HIK.out; cases hg1; obtain ⟨⟨gg2, hg2, o0, o1, o2, o3, o4, -⟩, r3⟩ := HP2.out.slabs h5.skip.skip.swap HS2.out HIK.out; cases hg2; simp only at p0 p1 p2 p3 p4 o0 o1 o2 o3 o4; rw [HU1.out] at p4 o4))
          go_wp2_with fail
          exact ⟨⟨i + 1, by go_num, by omega, h5⟩, by simp [intOf]; omega⟩
        · have hnl2 : ¬ (i : Int) < (l : Int) := by omega
          go_wp2_with fail
          go_ret
          exact ⟨rfl, hr.skip.skip⟩
end
end Go.Proofs.Ytigakendeghoaaa.See

/-
  wainscotlaw21.ChartApart answers true: the walk. No condition.
-/
namespace Go.Proofs.Ytigakendeghoaaa.Apart
open Go.RowKit
open chartPlaces (Ok)
attribute [local go_sem ↓] Go.wp_at_zero Go.wp_at_succ
theorem yes_works : Ex.yes Try.prog 30 34 = true := by kernel_rfl
theorem bool_info : (Try.prog.info? 4).map (fun i => (i.zero, i.size, i.bytes)) = some (some (.bool false), 1, 1) := by kernel_rfl
/-- which places are there already -/
def bRow (n : Nat) (S : List Nat) : Array Value := ((List.range n).map fun i => Value.bool (decide (i ∈ S))).toArray
theorem bRow_get {n i : Nat} (S : List Nat) (h : i < n) : (bRow n S)[i]? = some (.bool (decide (i ∈ S))) := by simp [bRow, h]
theorem bRow_nil (n : Nat) : Array.replicate n (Value.bool false) = bRow n [] := by
  apply Array.ext_getElem?
  intro j
  by_cases hj : j < n
  · rw [bRow_get _ hj]; simp [hj]
  · rw [Array.getElem?_eq_none (by simp; omega), Array.getElem?_eq_none (by simp [bRow]; omega)]
theorem bRow_set {n x : Nat} (S : List Nat) (h : x < n) : (bRow n S).setIfInBounds x (.bool true) = bRow n (S ++ [x]) := by
  apply Array.ext_getElem?
  intro j
  rw [Array.getElem?_setIfInBounds]
  by_cases hj : j < n
  · rw [bRow_get _ hj]
    by_cases hx : x = j
    · subst hx; simp [bRow, h]
    · rw [if_neg hx, bRow_get _ hj]
      have : ¬ j = x := fun e => hx e.symm
      simp [this]
  · rw [if_neg (by omega), Array.getElem?_eq_none (by simp [bRow]; omega), Array.getElem?_eq_none (by simp [bRow]; omega)]
theorem pl_new {C S O i x : Nat} (h : (pl C S O)[i]? = some x) : x ∉ (pl C S O).take i := by
  intro hm
  obtain ⟨j, hj, he⟩ := List.getElem_of_mem hm
  rw [List.length_take] at hj
  obtain ⟨hi, rfl⟩ := List.getElem?_eq_some_iff.1 h
  rw [List.getElem_take] at he
  have := List.pairwise_iff_getElem.1 (nodup_pl C S O) j i (by omega) hi (by omega)
  exact this he
theorem take_succ_get {l : List Nat} {i x : Nat} (h : l[i]? = some x) : l.take (i + 1) = l.take i ++ [x] := by
  obtain ⟨hi, rfl⟩ := List.getElem?_eq_some_iff.1 h
  exact List.take_succ_eq_append_getElem hi
theorem works_in {W w : World} {m : List (Nat × Obj)} (h : Own W m w) : Calls Try.prog 34 #[] w fun e w' => e = .returned (.bool true) ∧ Own W m w' := Ex.yes_in yes_works h
section
variable {W w : World} {m : List (Nat × Obj)}
set_option maxRecDepth 100000 in
set_option maxHeartbeats 4000000 in
theorem law_ok (a b c d0 e0 key : Int) (ha : (Lit.int .i64 a).wf = true) (hb : (Lit.int .i64 b).wf = true) (hc : (Lit.int .i64 c).wf = true) (hd : (Lit.int .i64 d0).wf = true) (he : (Lit.int .i64 e0).wf = true) (hO : Own W m w) :
    Calls Try.prog 5 #[chV a b c d0 e0 key] w fun r w' => r = .returned (.bool true) ∧ Own W m w' := by
  have h0 : Own W (chB w.heap.size a b c d0 e0 key :: m) _ := hO.new (.cells #[.int .i64 a, .int .i64 b, .int .i64 c, .int .i64 d0, .int .i64 e0, .int .u64 key] 24)
  obtain ⟨y0, y1, y2, y3, y4, y5⟩ := box6 h0
  have HA := Lib.hid ha
  have HB := Lib.hid hb
  have HC := Lib.hid hc
  have HD := Lib.hid hd
  have HE := Lib.hid he
  clear ha hb hc hd he
  unfold chV
  go_enter Try.func5, Try.ntmps5
  go_wp2_with fail
  refine (made_ok HA.out HB.out HC.out HD.out HE.out h0).mono ?_
  rintro r w1 ⟨⟨C, S, O, d, e, hOk, rfl⟩, h1⟩
  obtain ⟨C, rfl⟩ : ∃ n : Nat, C = n := ⟨C.toNat, by unfold Ok at hOk; omega⟩
  obtain ⟨S, rfl⟩ : ∃ n : Nat, S = n := ⟨S.toNat, by unfold Ok at hOk; omega⟩
  obtain ⟨O, rfl⟩ : ∃ n : Nat, O = n := ⟨O.toNat, by unfold Ok at hOk; omega⟩
  clear y0 y1 y2 y3 y4 y5
  obtain ⟨y0, y1, y2, y3, y4, y5⟩ := box6 h1
  have f0 := h1.frozen List.mem_cons_self 0
  have f1 := h1.frozen List.mem_cons_self 1
  have f2 := h1.frozen List.mem_cons_self 2
  have f3 := h1.frozen List.mem_cons_self 3
  have f4 := h1.frozen List.mem_cons_self 4
  have f5 := h1.frozen List.mem_cons_self 5
  have h2 : Own W (chB w.heap.size C S O d e key :: m) _ := (((((h1.set 0 (.int .i64 C)).set 1 (.int .i64 S)).set 2 (.int .i64 O)).set 3 (.int .i64 d)).set 4 (.int .i64 e)).set 5 (.int .u64 key)
  have HOK := Lib.hid hOk
  obtain ⟨c1, c2, c3, c4, c5, c6⟩ : 1 ≤ C ∧ C ≤ 8 ∧ 1 ≤ S ∧ S ≤ 32 ∧ 1 ≤ O ∧ O ≤ 16 := by unfold Ok at hOk; omega
  have hmul : S * O ≤ 32 * 16 := Nat.mul_le_mul c4 c6
  obtain ⟨N, hN⟩ : ∃ N : Nat, 4 * C + 4 + 4 * S + S * O = N := ⟨_, rfl⟩
  have hNi : 4 * (C : Int) + 4 + 4 * (S : Int) + (S : Int) * (O : Int) = (N : Int) := by rw [← hN]; push_cast; rfl
  have hN1 : 1 ≤ N := by omega
  have hN2 : N ≤ 4096 := by omega
  have HN := Lib.hid hN
  have HNI := Lib.hid hNi
  clear hOk hmul hN hNi
  go_wp2_with fail
  obtain ⟨wa, hwa⟩ : ∃ wa, (((((w1.setCell ⟨w.heap.size, 0, none⟩ (.int .i64 C)).setCell ⟨w.heap.size, 1, none⟩ (.int .i64 S)).setCell ⟨w.heap.size, 2, none⟩ (.int .i64 O)).setCell ⟨w.heap.size, 3, none⟩ (.int .i64 d)).setCell ⟨w.heap.size, 4, none⟩ (.int .i64 e)).setCell ⟨w.heap.size, 5, none⟩ (.int .u64 key) = wa := ⟨_, rfl⟩
  rw [hwa] at h2 ⊢
  clear hwa y0 y1 y2 y3 y4 y5 f0 f1 f2 f3 f4 f5
  refine (words_ok HOK.out h2).mono ?_
  rintro r w3 ⟨rfl, h3⟩
  rw [HNI.out]
  obtain ⟨y0, y1, y2, y3, y4, y5⟩ := box6 h3
  go_wp2_with fail
  refine (check_ok HOK.out h3).mono ?_
  rintro r w4 ⟨rfl, h4⟩
  clear y0 y1 y2 y3 y4 y5
  obtain ⟨i, hi, hz, hs, hby⟩ := info_get bool_info
  have hmk := fun W => run_make_rowN (P := Try.prog) 47 4 i _ Try.underlying47 hi hz .i64 .i64 N N (Nat.le_refl _) (by rw [hby]; omega) (by omega) W
  rw [hs, Nat.mul_one, madeCells_const _ (.bool false) _ (by simp [Value.cells]) (by intro j hj; obtain rfl : j = 0 := (by simp [Value.cells] at hj; omega); rfl), bRow_nil] at hmk
  clear hi hz hs hby
  have h5 := h4.new1 (m1 := [chB w.heap.size C S O d e key]) (.cells (bRow N []) 4)
  have h5 : Own W (chB w.heap.size C S O d e key :: (w4.heap.size, .cells (bRow N []) 4) :: m) _ := h5
  obtain ⟨y0, y1, y2, y3, y4, y5⟩ := box6 h5
  go_wp2_with fail
  clear hmk y0 y1 y2 y3 y4 y5
  refine (places_ok HOK.out h5).mono ?_
  rintro r w6 ⟨v6, bs6, rfl, o6, h6⟩
  have hlen : 0 < (castN (pl C S O)).length := by rw [castN_len, pl_eq, plB_len]; omega
  obtain ⟨g, cap6, cur6, rfl, -, -⟩ := o6.form hlen
  have O6 := Lib.hid o6
  have h6 : Own W (bs6 ++ (w4.heap.size, .cells (bRow N []) 4) :: m) _ := (h6.perm List.perm_middle).skip
  clear o6 hlen
  obtain ⟨Z, hZ⟩ : ∃ Z, (castN (pl C S O)).length = Z := ⟨_, rfl⟩
  have HZ := Lib.hid hZ
  rw [hZ]
  have hZ7 : Z ≤ 700 := by
    have h1 := plB_len C S O S
    have h2 : S * (3 + O) ≤ 32 * 19 := Nat.mul_le_mul c4 (by omega)
    rw [← hZ, castN_len, pl_eq]
    omega
  clear hZ
  go_wp2_with fail
  go_loopw [6] (fun i wr => ∃ j : Nat, j ≤ Z ∧ i = .int .i64 j ∧ Own W (bs6 ++ (w4.heap.size, .cells (bRow N ((pl C S O).take j)) 4) :: m) wr) (fun i _ => Z - (intOf i).toNat)
  case atStart => exact ⟨0, by omega, rfl, by simpa using h6⟩
  case round =>
    clear h6
    obtain ⟨j, hj, rfl, hr⟩ := hrel
    by_cases hlt : j < Z
    · have hlti : (j : Int) < Z := by omega
      obtain ⟨x, hx⟩ : ∃ x, (pl C S O)[j]? = some x := ⟨_, List.getElem?_eq_getElem (by have := HZ.out; rw [castN_len] at this; omega)⟩
      have hxi : (castN (pl C S O))[j]? = some (x : Int) := by simp [castN, hx]
      have hxN : x < N := by rw [← HN.out]; exact mem_pl (List.mem_of_getElem? hx)
      have hnew := pl_new hx
      have cx := SlO.cell O6.out hr rfl (ints_get hxi)
      have cb := hr.dropL.cell List.mem_cons_self x
      rw [bRow_get _ hxN, decide_eq_false hnew] at cb
      have fb := hr.dropL.frozen List.mem_cons_self x
      have h7 := hr.setIn x (.bool true)
      rw [bRow_set _ hxN, ← take_succ_get hx] at h7
      have hxi0 : (0 : Int) ≤ (x : Int) := by omega
      have hxi1 : (x : Int) < N := by omega
      clear hxi hnew hx
      go_wp2_with fail
      exact ⟨⟨j + 1, by omega, by go_num, h7⟩, by simp [intOf]; omega⟩
    · have hlti : ¬ (j : Int) < Z := by omega
      go_wp2_with fail
      refine (works_in hr.dropL.skip).mono ?_
      rintro r w7 ⟨rfl, h7⟩
      go_wp2_with fail
      go_ret
      exact ⟨rfl, h7⟩
end
end Go.Proofs.Ytigakendeghoaaa.Apart

/-
  wainscotlaw21.ChartBlind answers true: the walk. No condition.
-/
namespace Go.Proofs.Ytigakendeghoaaa.See
open Go.RowKit
open Apart (chV chB box6 bRow bRow_get bRow_nil bRow_set castN castN_len pl pl_eq plB_len mem_pl)
open chartPlaces (Ok)
attribute [local go_sem ↓] Go.wp_at_zero Go.wp_at_succ
theorem u64_info : (Try.prog.info? 22).map (fun i => (i.zero, i.size, i.bytes)) = some (some (.int .u64 0), 1, 8) := by kernel_rfl
/-- words as a row -/
def wRow (g : List Nat) : Array Value := (g.map fun (n : Nat) => Value.int .u64 (n : Int)).toArray
theorem wRow_get {g : List Nat} {i x : Nat} (h : g[i]? = some x) : (wRow g)[i]? = some (.int .u64 (x : Int)) := by simp [wRow, h]
theorem wRow_set (g : List Nat) (i x : Nat) : (wRow g).setIfInBounds i (.int .u64 (x : Int)) = wRow (g.set i x) := by
  apply Array.ext_getElem?
  intro j
  rw [Array.getElem?_setIfInBounds]
  simp only [wRow, List.size_toArray, List.length_map, List.getElem?_toArray, List.getElem?_map, List.getElem?_set]
  by_cases hj : i = j
  · subst hj
    by_cases hi : i < g.length
    · simp [hi]
    · simp [hi]
  · simp [hj]
theorem wRow_zero (n : Nat) : Array.replicate n (Value.int .u64 0) = wRow (List.replicate n 0) := by
  apply Array.ext_getElem?
  intro j
  by_cases hj : j < n
  · simp [wRow, hj]
  · simp [wRow, hj]
theorem blind_p1 {α : Type} (x y : α) (b : List α) (i : α) (e : List α) : (x :: (y :: (b ++ i :: e))).Perm (i :: (x :: (y :: (b ++ e)))) := by
  have h1 : (b ++ i :: e).Perm (i :: (b ++ e)) := List.perm_middle
  exact ((h1.cons y).cons x).trans (((List.Perm.swap _ _ _).cons x).trans (List.Perm.swap _ _ _))
theorem blind_p3 {α : Type} (p : List α) (x y : α) (e : List α) : (p ++ (x :: (y :: e))).Perm (x :: (y :: (p ++ e))) :=
  List.perm_middle.trans (List.Perm.cons x List.perm_middle)
theorem blind_p2 {α : Type} (y : α) (b2 : List α) (x z : α) (p : List α) (k : α) (b1 e : List α) : (y :: (b2 ++ (x :: (z :: (p ++ (k :: (b1 ++ e))))))).Perm (b1 ++ (b2 ++ (y :: (x :: (z :: (p ++ (k :: e))))))) := by
  have h1 : y :: (b2 ++ (x :: (z :: (p ++ (k :: (b1 ++ e)))))) = (y :: (b2 ++ (x :: (z :: (p ++ [k]))))) ++ (b1 ++ e) := by simp
  have h2 : (y :: (b2 ++ (x :: (z :: (p ++ [k]))))) ++ e = y :: (b2 ++ (x :: (z :: (p ++ (k :: e))))) := by simp
  rw [h1]
  refine (perm_swap _ _ _).trans (List.Perm.append_left b1 ?_)
  rw [h2]
  exact List.perm_middle.symm
section
variable {W w : World} {m M : List (Nat × Obj)} {ib : Nat} {g : List Nat}
theorem rd_row : Rd W ((ib, .cells (wRow g) 22) :: m) ib 0 g := fun ws hw j x hj => by
  rw [hw.cell List.mem_cons_self, Nat.zero_add]
  exact wRow_get hj
theorem wok_row {c : Ch} {N : Nat} (hl : g.length = N) (hN : N = c.words) (hw : W64 g) (hm : N ≤ maxLen) : WOk W ((ib, .cells (wRow g) 22) :: m) ib 0 N N g c := ⟨rd_row, hl, hN, hw, Nat.le_refl _, hm⟩
/-- what See answers, as one: the code, and a core -/
def seeK (r : Option CoreP) : CoreP × Int := match r with
  | some K => (K, 0)
  | none => (⟨[], [], false, []⟩, 150)
theorem core_none : CoreO (.agg #[.slice none 0 0, .slice none 0 0, .bool false, .slice none 0 0]) ⟨[], [], false, []⟩ [] :=
  ⟨[], _, [], _, [], [], _, [], rfl, rfl, (fun s hs => by cases hs), SlO.nil _ _ _, SlO.nil _ _ _, rfl, (fun s hs => by cases hs), SlO.nil _ _ _, rfl⟩
theorem see_one {r : Option CoreP} {e : Ending} {w' : World} (h : SeePost W m r e w') : ∃ v bs, e = .returned (.tuple #[v, .int .i64 (seeK r).2]) ∧ CoreO v (seeK r).1 bs ∧ Own W (bs ++ m) w' := by
  cases r with
  | none =>
    obtain ⟨rfl, h2⟩ := h
    exact ⟨_, [], rfl, core_none, h2⟩
  | some K =>
    obtain ⟨v, bs, rfl, h1, h2⟩ := h
    exact ⟨v, bs, rfl, h1.out, h2⟩
theorem seeK_small {c : Ch} (hc : c.C ≤ 8 ∧ c.S ≤ 32 ∧ c.O ≤ 16) : SmallC (seeK (seeP c g)).1 := by
  cases h : seeP c g with
  | none => exact ⟨by simp [seeK], by simp [seeK], by simp [seeK], (fun s hs => by simp [seeK] at hs), (fun s hs => by simp [seeK] at hs)⟩
  | some K => exact see_small hc h
set_option maxRecDepth 100000 in
set_option maxHeartbeats 8000000 in
theorem blind_walk (hO : Own W m w) (a b c d0 e0 key v : Int) (ha : (Lit.int .i64 a).wf = true) (hb : (Lit.int .i64 b).wf = true) (hc : (Lit.int .i64 c).wf = true) (hd : (Lit.int .i64 d0).wf = true) (he : (Lit.int .i64 e0).wf = true) (hkey : (Lit.int .u64 key).wf = true) (hv : (Lit.int .u64 v).wf = true)
    (A : Option Addr) (len cap : Nat) (hlc : len ≤ cap) (hcap : cap ≤ maxLen) (hat : FlatAt W [some .u64] A len) :
    Calls Try.prog 6 #[.slice A len cap, chV a b c d0 e0 key, .int .u64 v] w fun r w' => r = .returned (.bool true) ∧ Own W m w' := by
  have hkey2 : 0 ≤ key ∧ key < 18446744073709551616 := by
    simp [Lit.wf, IntKind.min, IntKind.max, IntKind.signed, IntKind.bits] at hkey
    omega
  have hv2 : 0 ≤ v ∧ v < 18446744073709551616 := by
    simp [Lit.wf, IntKind.min, IntKind.max, IntKind.signed, IntKind.bits] at hv
    omega
  obtain ⟨key, rfl⟩ : ∃ k : Nat, key = k := ⟨key.toNat, by omega⟩
  obtain ⟨v, rfl⟩ : ∃ k : Nat, v = k := ⟨v.toNat, by omega⟩
  have HV : Hid (v < 18446744073709551616) := by show _ < _; omega
  have HK : Hid (key < 18446744073709551616) := by show _ < _; omega
  have HAT := Lib.hid hat
  have HCAP := Lib.hid hcap
  have h0 : Own W (chB w.heap.size a b c d0 e0 key :: m) _ := hO.new (.cells #[.int .i64 a, .int .i64 b, .int .i64 c, .int .i64 d0, .int .i64 e0, .int .u64 key] 24)
  obtain ⟨z, hz⟩ : ∃ z, w.heap.size = z := ⟨_, rfl⟩
  rw [hz] at h0
  obtain ⟨y0, y1, y2, y3, y4, y5⟩ := box6 h0
  have HA := Lib.hid ha
  have HB := Lib.hid hb
  have HC := Lib.hid hc
  have HD := Lib.hid hd
  have HE := Lib.hid he
  clear ha hb hc hd he hkey hv hkey2 hv2 hat hcap
  unfold chV
  go_enter Try.func6, Try.ntmps6
  go_wp2_with fail
  refine (Apart.made_ok HA.out HB.out HC.out HD.out HE.out h0).mono ?_
  rintro r w1 ⟨⟨C, S, O, d, e, hOk, rfl⟩, h1⟩
  obtain ⟨C, rfl⟩ : ∃ n : Nat, C = n := ⟨C.toNat, by unfold Ok at hOk; omega⟩
  obtain ⟨S, rfl⟩ : ∃ n : Nat, S = n := ⟨S.toNat, by unfold Ok at hOk; omega⟩
  obtain ⟨O, rfl⟩ : ∃ n : Nat, O = n := ⟨O.toNat, by unfold Ok at hOk; omega⟩
  clear y0 y1 y2 y3 y4 y5
  obtain ⟨y0, y1, y2, y3, y4, y5⟩ := box6 h1
  have f0 := h1.frozen List.mem_cons_self 0
  have f1 := h1.frozen List.mem_cons_self 1
  have f2 := h1.frozen List.mem_cons_self 2
  have f3 := h1.frozen List.mem_cons_self 3
  have f4 := h1.frozen List.mem_cons_self 4
  have f5 := h1.frozen List.mem_cons_self 5
  have h2 : Own W (chB z C S O d e key :: m) _ := (((((h1.set 0 (.int .i64 C)).set 1 (.int .i64 S)).set 2 (.int .i64 O)).set 3 (.int .i64 d)).set 4 (.int .i64 e)).set 5 (.int .u64 key)
  have hcc : COk ⟨C, S, O, key⟩ d e := ⟨hOk, HK.out⟩
  have HCC := Lib.hid hcc
  have HOK := Lib.hid hOk
  obtain ⟨c1, c2, c3, c4, c5, c6⟩ : 1 ≤ C ∧ C ≤ 8 ∧ 1 ≤ S ∧ S ≤ 32 ∧ 1 ≤ O ∧ O ≤ 16 := by unfold Ok at hOk; omega
  have hmul : S * O ≤ 32 * 16 := Nat.mul_le_mul c4 c6
  obtain ⟨N, hN⟩ : ∃ N : Nat, 4 * C + 4 + 4 * S + S * O = N := ⟨_, rfl⟩
  have hNi : 4 * (C : Int) + 4 + 4 * (S : Int) + (S : Int) * (O : Int) = (N : Int) := by rw [← hN]; push_cast; rfl
  have hN1 : 1 ≤ N := by omega
  have hN2 : N ≤ 4096 := by omega
  have HN : Hid (N = (⟨C, S, O, key⟩ : Ch).words) := hN.symm
  have HNI := Lib.hid hNi
  clear hOk hmul hN hNi hcc
  go_wp2_with fail
  obtain ⟨wa, hwa⟩ : ∃ wa, (((((w1.setCell ⟨z, 0, none⟩ (.int .i64 C)).setCell ⟨z, 1, none⟩ (.int .i64 S)).setCell ⟨z, 2, none⟩ (.int .i64 O)).setCell ⟨z, 3, none⟩ (.int .i64 d)).setCell ⟨z, 4, none⟩ (.int .i64 e)).setCell ⟨z, 5, none⟩ (.int .u64 key) = wa := ⟨_, rfl⟩
  rw [hwa] at h2 ⊢
  clear hwa y0 y1 y2 y3 y4 y5 f0 f1 f2 f3 f4 f5 h1 h0 hz
  refine (Apart.words_ok HOK.out h2).mono ?_
  rintro r w3 ⟨rfl, h3⟩
  rw [HNI.out]
  obtain ⟨i, hi, hzz, hs, hby⟩ := info_get u64_info
  have hmk := fun W => run_make_rowN (P := Try.prog) 35 22 i _ Try.underlying35 hi hzz .i64 .i64 N N (Nat.le_refl _) (by rw [hby]; omega) (by omega) W
  rw [hs, Nat.mul_one, madeCells_const _ (.int .u64 0) _ (by simp [Value.cells]) (by intro j hj; obtain rfl : j = 0 := (by simp [Value.cells] at hj; omega); rfl), wRow_zero] at hmk
  clear hi hzz hs hby
  have h4 : Own W ((w3.heap.size, .cells (wRow (List.replicate N 0)) 22) :: (chB z C S O d e key :: m)) _ := h3.new (.cells (wRow (List.replicate N 0)) 22)
  go_wp2_with fail
  obtain ⟨ib, hib⟩ : ∃ ib, w3.heap.size = ib := ⟨_, rfl⟩
  obtain ⟨wb, hwb⟩ : ∃ wb, w3.alloc (.cells (wRow (List.replicate N 0)) 22) = wb := ⟨_, rfl⟩
  rw [hib, hwb] at h4
  rw [hib, hwb]
  have H4 := Lib.hid h4
  clear hmk hib hwb h2 h3 h4
  go_loopw [9] (fun iv wr => ∃ (i : Nat) (g : List Nat), iv = .int .i64 i ∧ i ≤ N ∧ i ≤ len ∧ Hid (g.length = N) ∧ Hid (W64 g) ∧ Own W ((ib, .cells (wRow g) 22) :: (chB z C S O d e key :: m)) wr) (fun iv _ => N - (intOf iv).toNat)
  case atStart => exact ⟨0, _, rfl, by omega, by omega, List.length_replicate, (fun x hx => by rw [List.eq_of_mem_replicate hx]; omega), H4.out⟩
  case round =>
    clear H4
    obtain ⟨i, g, rfl, hi, hil, HLEN, HW, hr⟩ := hrel
    have hcap := HCAP.out
    unfold maxLen at hcap
    by_cases hlt : i < N ∧ i < len
    · obtain ⟨hlt, hll⟩ := hlt
      have hlti : (i : Int) < N := by omega
      have hlli : (i : Int) < len := by omega
      have hi0 : (0 : Int) ≤ i := by omega
      obtain ⟨B, o, rfl, hBW, hcs⟩ := HAT.out (by omega)
      obtain ⟨_, d1, x0, rfl, xf0⟩ := hcs i hll 0 _ rfl
      simp only [List.length_cons, List.length_nil, Nat.reduceAdd, Nat.add_zero, Nat.zero_add, Nat.mul_one] at d1
      have d1' := (hr.old (a := ⟨B, o + i, none⟩) hBW).trans d1
      have hx2 : 0 ≤ x0 ∧ x0 < 18446744073709551616 := by
        simp [Lit.wf, IntKind.min, IntKind.max, IntKind.signed, IntKind.bits] at xf0
        omega
      obtain ⟨x, rfl⟩ : ∃ x : Nat, x0 = x := ⟨x0.toNat, by omega⟩
      have hg := hr.cell List.mem_cons_self i
      obtain ⟨x1, hx1⟩ : ∃ x1, g[i]? = some x1 := ⟨_, List.getElem?_eq_getElem (by rw [HLEN.out]; exact hlt)⟩
      rw [wRow_get hx1] at hg
      have hf := hr.frozen List.mem_cons_self i
      have h5 := hr.set i (.int .u64 (x : Int))
      rw [wRow_set] at h5
      have HW2 : Hid (W64 (g.set i x)) := fun y hy => by
        rcases List.mem_or_eq_of_mem_set hy with hy | rfl
        · exact HW.out y hy
        · omega
      clear hcs d1 xf0 hx2 hx1 hcap
      go_wp2_with fail
      exact ⟨⟨i + 1, g.set i x, by go_num, by omega, by omega, (by show _ = _; rw [List.length_set]; exact HLEN.out), HW2, h5⟩, by simp [intOf]; omega⟩
    · have hnl : (N : Int) ≤ i ∨ ((i : Int) < N ∧ (len : Int) ≤ i) := by omega
      have hsee := see_spec hr HCC.out (wok_row (W := W) (m := chB z C S O d e key :: m) (ib := ib) HLEN.out HN.out HW.out (by unfold maxLen; omega))
      have HSEE := Lib.hid hsee
      obtain ⟨y0, y1, y2, y3, y4, y5⟩ := box6 hr.skip
      clear hlt hsee hr
      rcases hnl with hnl | ⟨hnl2, hnl⟩
      all_goals
        go_wp2_with fail
        refine HSEE.out.mono ?_
        rintro r w4 hpost
        obtain ⟨v1, bs1, rfl, K1, h5⟩ := see_one hpost
        obtain ⟨E1, hE1⟩ : ∃ E1, (seeK (seeP (⟨C, S, O, key⟩ : Ch) g)).2 = E1 := ⟨_, rfl⟩
        obtain ⟨A0, A1, A2, k0, k1, k2, Ls, Ll, rfl, P1⟩ := core_parts K1
        have HK1 := Lib.hid K1
        obtain ⟨n0, hn0⟩ : ∃ n, (seeK (seeP (⟨C, S, O, key⟩ : Ch) g)).1.slots.length = n := ⟨_, rfl⟩
        obtain ⟨n1, hn1⟩ : ∃ n, (seeK (seeP (⟨C, S, O, key⟩ : Ch) g)).1.shelf.length = n := ⟨_, rfl⟩
        obtain ⟨n2, hn2⟩ : ∃ n, (seeK (seeP (⟨C, S, O, key⟩ : Ch) g)).1.slabs.length = n := ⟨_, rfl⟩
        obtain ⟨lk, hlk⟩ : ∃ n, (seeK (seeP (⟨C, S, O, key⟩ : Ch) g)).1.locked = n := ⟨_, rfl⟩
        have HE1 := Lib.hid hE1
        have HN0 := Lib.hid hn0
        have HN1 := Lib.hid hn1
        have HN2 := Lib.hid hn2
        have HLK := Lib.hid hlk
        rw [hE1, hn0, hn1, hn2, hlk]
        rw [hn0, hn1, hn2, hlk] at K1
        have HK := Lib.hid K1
        have h6 := h5.new (.cells #[.slice A0 n0 k0, .slice A1 n1 k1, .bool lk, .slice A2 n2 k2] 40)
        obtain ⟨kb, hkb⟩ : ∃ kb, w4.heap.size = kb := ⟨_, rfl⟩
        rw [hkb] at h6
        obtain ⟨i2, hi2, hzz, hs2, hby⟩ := info_get Apart.bool_info
        have hmk := fun W => run_make_rowN (P := Try.prog) 47 4 i2 _ Try.underlying47 hi2 hzz .i64 .i64 N N (Nat.le_refl _) (by rw [hby]; omega) (by omega) W
        rw [hs2, Nat.mul_one, madeCells_const _ (.bool false) _ (by simp [Value.cells]) (by intro j hj; obtain rfl : j = 0 := (by simp [Value.cells] at hj; omega); rfl), bRow_nil] at hmk
        have h7 := h6.new (.cells (bRow N []) 4)
        rw [World.size_alloc, hkb] at h7
        have h8 : Own W ((ib, .cells (wRow g) 22) :: ((kb + 1, .cells (bRow N []) 4) :: ((kb, .cells #[.slice A0 n0 k0, .slice A1 n1 k1, .bool lk, .slice A2 n2 k2] 40) :: (bs1 ++ (chB z C S O d e key :: m))))) _ := h7.perm (blind_p1 _ _ _ _ _)
        clear hi2 hzz hs2 hby y0 y1 y2 y3 y4 y5 hpost hE1 hn0 hn1 hn2 hlk P1
        obtain ⟨y0, y1, y2, y3, y4, y5⟩ := box6 (h8.skip.skip.skip.dropL)
        go_wp2_with fail
        have H8 := Lib.hid h8
        clear y0 y1 y2 y3 y4 y5 h5 h6 h7 h8 hkb hmk hcap
        refine (Apart.places_ok HOK.out H8.out).mono ?_
        rintro r w5 ⟨v6, bsP, rfl, o6, h9⟩
        have hlen : 0 < (castN (pl C S O)).length := by rw [castN_len, pl_eq, plB_len]; omega
        obtain ⟨g6, cap6, cur6, rfl, -, -⟩ := o6.form hlen
        have O6 := Lib.hid o6
        have h10 : Own W ((ib, .cells (wRow g) 22) :: ((kb + 1, .cells (bRow N []) 4) :: (bsP ++ ((kb, .cells #[.slice A0 n0 k0, .slice A1 n1 k1, .bool lk, .slice A2 n2 k2] 40) :: (bs1 ++ (chB z C S O d e key :: m)))))) _ := h9.perm (blind_p3 _ _ _ _)
        obtain ⟨Z, hZ⟩ : ∃ Z, (castN (pl C S O)).length = Z := ⟨_, rfl⟩
        have HZ := Lib.hid hZ
        rw [hZ]
        have hZ7 : Z ≤ 700 := by
          have h1 := plB_len C S O S
          have h2 : S * (3 + O) ≤ 32 * 19 := Nat.mul_le_mul c4 (by omega)
          rw [← hZ, castN_len, pl_eq]
          omega
        have H10 := Lib.hid h10
        clear hZ hlen o6 h9 h10
        go_wp2_with fail
        obtain ⟨w0, hw0⟩ : ∃ w0 : World, w0 = wr := ⟨_, rfl⟩
        subst hw0
        go_loopw [14] (fun iv wr => ∃ j : Nat, j ≤ Z ∧ iv = .int .i64 j ∧ Own W ((ib, .cells (wRow g) 22) :: ((kb + 1, .cells (bRow N ((pl C S O).take j)) 4) :: (bsP ++ ((kb, .cells #[.slice A0 n0 k0, .slice A1 n1 k1, .bool lk, .slice A2 n2 k2] 40) :: (bs1 ++ (chB z C S O d e key :: m)))))) wr) (fun iv _ => Z - (intOf iv).toNat)
        case atStart => exact ⟨0, by omega, rfl, by simpa using H10.out⟩
        case round =>
          clear H10 H8
          obtain ⟨j, hj, rfl, hr⟩ := hrel
          by_cases hlt : j < Z
          · have hlti : (j : Int) < Z := by omega
            obtain ⟨x, hx⟩ : ∃ x, (pl C S O)[j]? = some x := ⟨_, List.getElem?_eq_getElem (by have := HZ.out; rw [castN_len] at this; omega)⟩
            have hxi : (castN (pl C S O))[j]? = some (x : Int) := by simp [castN, hx]
            have hxN : x < N := by rw [HN.out]; exact mem_pl (List.mem_of_getElem? hx)
            have cx := SlO.cell O6.out hr.skip.skip rfl (ints_get hxi)
            have cb := hr.skip.cell List.mem_cons_self x
            rw [bRow_get _ hxN] at cb
            have fb := hr.skip.frozen List.mem_cons_self x
            have h7 := (hr.perm (List.Perm.swap _ _ _)).set x (.bool true)
            rw [bRow_set _ hxN, ← Apart.take_succ_get hx] at h7
            have h7 := h7.perm (List.Perm.swap _ _ _)
            have hxi0 : (0 : Int) ≤ (x : Int) := by omega
            have hxi1 : (x : Int) < N := by omega
            clear hxi hx
            go_wp2_with fail
            exact ⟨⟨j + 1, by omega, by go_num, h7⟩, by simp [intOf]; omega⟩
          · have hlti : ¬ (j : Int) < Z := by omega
            have hall : (pl C S O).take j = pl C S O := List.take_of_length_le (by have := HZ.out; rw [castN_len] at this; omega)
            rw [hall] at hr
            have HR := Lib.hid hr
            clear hall hr
            go_wp2_with fail
            obtain ⟨w6, hw6⟩ : ∃ w6 : World, w6 = wr := ⟨_, rfl⟩
            subst hw6
            go_loopw [15] (fun iv wr => ∃ (i : Nat) (g' : List Nat), iv = .int .i64 i ∧ i ≤ N ∧ Hid (g'.length = N) ∧ Hid (W64 g') ∧ Hid (∀ x ∈ pl C S O, at_ g' x = at_ g x) ∧ Own W ((ib, .cells (wRow g') 22) :: ((kb + 1, .cells (bRow N (pl C S O)) 4) :: (bsP ++ ((kb, .cells #[.slice A0 n0 k0, .slice A1 n1 k1, .bool lk, .slice A2 n2 k2] 40) :: (bs1 ++ (chB z C S O d e key :: m)))))) wr) (fun iv _ => N - (intOf iv).toNat)
            case atStart => exact ⟨0, g, rfl, by omega, HLEN, HW, (fun x _ => rfl), HR.out⟩
            case round =>
              clear HR
              obtain ⟨i, g', rfl, hi3, HLEN3, HW3, HEQ, hr⟩ := hrel
              by_cases hlt3 : i < N
              · have hlti3 : (i : Int) < N := by omega
                have hi0 : (0 : Int) ≤ i := by omega
                have cb := hr.skip.cell List.mem_cons_self i
                rw [bRow_get _ hlt3] at cb
                by_cases hin : i ∈ pl C S O
                · rw [decide_eq_true hin] at cb
                  go_wp2_with fail
                  exact ⟨⟨i + 1, g', by go_num, by omega, HLEN3, HW3, HEQ, hr⟩, by simp [intOf]; omega⟩
                · rw [decide_eq_false hin] at cb
                  have hg := hr.cell List.mem_cons_self i
                  obtain ⟨x1, hx1⟩ : ∃ x1, g'[i]? = some x1 := ⟨_, List.getElem?_eq_getElem (by rw [HLEN3.out]; exact hlt3)⟩
                  rw [wRow_get hx1] at hg
                  have hf := hr.frozen List.mem_cons_self i
                  have h5 := hr.set i (.int .u64 (v : Int))
                  rw [wRow_set] at h5
                  have HW4 : Hid (W64 (g'.set i v)) := fun y hy => by
                    rcases List.mem_or_eq_of_mem_set hy with hy | rfl
                    · exact HW3.out y hy
                    · exact HV.out
                  have HEQ2 : Hid (∀ x ∈ pl C S O, at_ (g'.set i v) x = at_ g x) := fun x hx => by
                    rw [← HEQ.out x hx]
                    unfold at_
                    rw [List.getD_eq_getElem?_getD, List.getD_eq_getElem?_getD, List.getElem?_set_ne (fun he : i = x => hin (by rw [he]; exact hx))]
                  clear hx1
                  go_wp2_with fail
                  exact ⟨⟨i + 1, g'.set i v, by go_num, by omega, (by show _ = _; rw [List.length_set]; exact HLEN3.out), HW4, HEQ2, h5⟩, by simp [intOf]; omega⟩
              · have hlti3 : ¬ (i : Int) < N := by omega
                have hsee := see_spec hr HCC.out (wok_row (W := W) (m := (kb + 1, .cells (bRow N (pl C S O)) 4) :: (bsP ++ ((kb, .cells #[.slice A0 n0 k0, .slice A1 n1 k1, .bool lk, .slice A2 n2 k2] 40) :: (bs1 ++ (chB z C S O d e key :: m))))) (ib := ib) HLEN3.out HN.out HW3.out (by unfold maxLen; omega))
                rw [see_congr (c := ⟨C, S, O, key⟩) (HLEN3.out.trans HN.out) (HLEN.out.trans HN.out) HEQ.out] at hsee
                have HSEE2 := Lib.hid hsee
                obtain ⟨y0, y1, y2, y3, y4, y5⟩ := box6 hr.skip.skip.dropL.skip.dropL
                clear hsee hr
                go_wp2_with fail
                refine HSEE2.out.mono ?_
                rintro r w7 hpost
                obtain ⟨v2, bs2, rfl, K2, h11⟩ := see_one hpost
                have HK2 := Lib.hid K2
                obtain ⟨D0, D1, D2, l0, l1, l2, Ls2, Ll2, rfl, P2⟩ := core_parts K2
                rw [HE1.out, HN0.out, HN1.out, HN2.out, HLK.out]
                rw [HN0.out, HN1.out, HN2.out, HLK.out] at K2
                have HKK2 := Lib.hid K2
                have h12 := h11.new (.cells #[.slice D0 n0 l0, .slice D1 n1 l1, .bool lk, .slice D2 n2 l2] 40)
                obtain ⟨nk, hnk⟩ : ∃ nk, w7.heap.size = nk := ⟨_, rfl⟩
                rw [hnk] at h12
                have hkc := h12.skip.dropL.skip.skip.dropL.cell List.mem_cons_self
                have q0 := hkc 0
                have q1 := hkc 1
                have q2 := hkc 2
                have q3 := hkc 3
                simp at q0 q1 q2 q3
                have H13 := Lib.hid (h12.perm (blind_p2 _ _ _ _ _ _ _ _))
                clear hpost P2 K2 h11 h12 hkc y0 y1 y2 y3 y4 y5 hnk
                go_wp2_with fail
                refine (same_spec H13.out HK.out HKK2.out (seeK_small ⟨c2, c4, c6⟩)).mono ?_
                rintro r w8 ⟨rfl, h14⟩
                go_wp2_with fail
                refine (Apart.works_in (h14.dropL.dropL.skip.skip.skip.dropL.skip.skip)).mono ?_
                rintro r w9 ⟨rfl, h15⟩
                go_wp2_with fail
                go_ret
                exact ⟨rfl, h15⟩
end
end Go.Proofs.Ytigakendeghoaaa.See

/-
  Contracts: chart.See and wainscotref21.See, of any chart and any words. No condition.
-/
namespace Go.Proofs.Ytigakendeghoaaa.See
open Go.RowKit
open Apart (chV chB box6 ChAt)
open chartPlaces (Ok I64)
attribute [local go_sem ↓] Go.wp_at_zero Go.wp_at_succ
section
variable {W w : World} {M m : List (Nat × Obj)} {A : Option Addr} {v : Value} {n k : Nat} {g : List Nat} {C S O d e key : Int}
abbrev zeroCore : Value := .agg #[.slice none 0 0, .slice none 0 0, .bool false, .slice none 0 0]
set_option maxRecDepth 100000 in
set_option maxHeartbeats 4000000 in
theorem see_bad (h : Own W m w) (hb : ¬ Ok C S O d e ∨ (Ok C S O d e ∧ (n : Int) ≠ 4 * C + 4 + 4 * S + S * O)) :
    Calls Try.prog 36 #[.slice A n k, chV C S O d e key] w fun r w' => r = .returned (.tuple #[zeroCore, .int .i64 2]) ∧ Own W m w' := by
  have h1 := (h.new (.cells #[.int .i64 C, .int .i64 S, .int .i64 O, .int .i64 d, .int .i64 e, .int .u64 key] 24)).new (.cells #[.slice none 0 0, .slice none 0 0, .bool false, .slice none 0 0] 40)
  obtain ⟨b, hb0⟩ : ∃ b, w.heap.size = b := ⟨_, rfl⟩
  simp only [World.size_alloc] at h1
  rw [hb0] at h1
  have h1 : Own W (kBlk (b + 1) (.slice none 0 0) (.slice none 0 0) false (.slice none 0 0) :: (chB b C S O d e key :: m)) _ := h1
  obtain ⟨y0, y1, y2, y3, y4, y5⟩ := box6 h1.skip
  rcases hb with hno | ⟨hok, hne⟩
  · have hck := fun ws (hws : Own W (kBlk (b + 1) (.slice none 0 0) (.slice none 0 0) false (.slice none 0 0) :: (chB b C S O d e key :: m)) ws) => Apart.check_all (key := key) (C := C) (S := S) (O := O) (d := d) (e := e) hws
    rw [if_neg hno] at hck
    have HCK := Lib.hid hck
    clear hck hno
    have H1 := Lib.hid h1
    clear h1 h
    unfold chV
    go_enter Try.func36, Try.ntmps36
    go_wp2_with fail
    refine (HCK.out _ H1.out).mono ?_
    rintro r w2 ⟨rfl, h2⟩
    clear y0 y1 y2 y3 y4 y5
    obtain ⟨⟨z0, z1, z2, z3⟩, ⟨f0, f1, f2, f3⟩⟩ := boxK h2
    go_wp2_with fail
    have h9 := kset (sv' := .slice none 0 0) (hv' := .slice none 0 0) (l' := false) (lv' := .slice none 0 0) h2
    obtain ⟨⟨e0, e1, e2, e3⟩, -⟩ := boxK h9
    exact bodyPost_ret (v := .tuple #[.agg #[.slice none 0 0, .slice none 0 0, .bool false, .slice none 0 0], .int .i64 2]) (by simp [results, Try.f36, go_sem, e0, e1, e2, e3]) rfl ⟨rfl, h9.skip.skip⟩
  · have HOK := Lib.hid hok
    have hnb : ((n : Int) != 4 * C + 4 + 4 * S + S * O) = true := by simpa using hne
    obtain ⟨V, hV⟩ : ∃ V, 4 * C + 4 + 4 * S + S * O = V := ⟨_, rfl⟩
    rw [hV] at hnb
    have HV := Lib.hid hV
    have H1 := Lib.hid h1
    clear hne hok hV h1 h
    unfold chV
    go_enter Try.func36, Try.ntmps36
    go_wp2_with fail
    refine (Apart.check_ok HOK.out H1.out).mono ?_
    rintro r w2 ⟨rfl, h2⟩
    clear y0 y1 y2 y3 y4 y5
    obtain ⟨y0, y1, y2, y3, y4, y5⟩ := box6 h2.skip
    go_wp2_with fail
    refine (Apart.words_ok HOK.out h2).mono ?_
    rintro r w3 ⟨rfl, h3⟩
    rw [HV.out]
    clear y0 y1 y2 y3 y4 y5
    obtain ⟨⟨z0, z1, z2, z3⟩, ⟨f0, f1, f2, f3⟩⟩ := boxK h3
    go_wp2_with fail
    have h9 := kset (sv' := .slice none 0 0) (hv' := .slice none 0 0) (l' := false) (lv' := .slice none 0 0) h3
    obtain ⟨⟨e0, e1, e2, e3⟩, -⟩ := boxK h9
    exact bodyPost_ret (v := .tuple #[.agg #[.slice none 0 0, .slice none 0 0, .bool false, .slice none 0 0], .int .i64 2]) (by simp [results, Try.f36, go_sem, e0, e1, e2, e3]) rfl ⟨rfl, h9.skip.skip⟩
set_option maxRecDepth 100000 in
set_option maxHeartbeats 4000000 in
theorem rsee_bad (hC : I64 C) (hS : I64 S) (hOO : I64 O) (h : Own W m w) (hb : ¬ Ok C S O d e ∨ (Ok C S O d e ∧ (n : Int) ≠ 4 * C + 4 + 4 * S + S * O)) :
    Calls Try.prog 37 #[.slice A n k, chV C S O d e key] w fun r w' => r = .returned (.tuple #[zeroCore, .int .i64 2]) ∧ Own W m w' := by
  have h1 := (h.new (.cells #[.int .i64 C, .int .i64 S, .int .i64 O, .int .i64 d, .int .i64 e, .int .u64 key] 24)).new (.cells #[.slice none 0 0, .slice none 0 0, .bool false, .slice none 0 0] 40)
  obtain ⟨b, hb0⟩ : ∃ b, w.heap.size = b := ⟨_, rfl⟩
  simp only [World.size_alloc] at h1
  rw [hb0] at h1
  have h1 : Own W (kBlk (b + 1) (.slice none 0 0) (.slice none 0 0) false (.slice none 0 0) :: (chB b C S O d e key :: m)) _ := h1
  obtain ⟨y0, y1, y2, y3, y4, y5⟩ := box6 h1.skip
  rcases hb with hno | ⟨hok, hne⟩
  · have hck := fun ws (hws : Own W (kBlk (b + 1) (.slice none 0 0) (.slice none 0 0) false (.slice none 0 0) :: (chB b C S O d e key :: m)) ws) => Apart.rcheck_all (key := key) (C := C) (S := S) (O := O) (d := d) (e := e) hC hS hOO hws
    rw [if_neg hno] at hck
    have HCK := Lib.hid hck
    clear hck hno hC hS hOO
    have H1 := Lib.hid h1
    clear h1 h
    unfold chV
    go_enter Try.func37, Try.ntmps37
    go_wp2_with fail
    refine (HCK.out _ H1.out).mono ?_
    rintro r w2 ⟨rfl, h2⟩
    clear y0 y1 y2 y3 y4 y5
    obtain ⟨⟨z0, z1, z2, z3⟩, ⟨f0, f1, f2, f3⟩⟩ := boxK h2
    go_wp2_with fail
    have h9 := kset (sv' := .slice none 0 0) (hv' := .slice none 0 0) (l' := false) (lv' := .slice none 0 0) h2
    obtain ⟨⟨e0, e1, e2, e3⟩, -⟩ := boxK h9
    exact bodyPost_ret (v := .tuple #[.agg #[.slice none 0 0, .slice none 0 0, .bool false, .slice none 0 0], .int .i64 2]) (by simp [results, Try.f37, go_sem, e0, e1, e2, e3]) rfl ⟨rfl, h9.skip.skip⟩
  · have HOK := Lib.hid hok
    have hnb : ((n : Int) != 4 * C + 4 + 4 * S + S * O) = true := by simpa using hne
    obtain ⟨V, hV⟩ : ∃ V, 4 * C + 4 + 4 * S + S * O = V := ⟨_, rfl⟩
    rw [hV] at hnb
    have HV := Lib.hid hV
    have H1 := Lib.hid h1
    clear hne hok hV h1 h hC hS hOO
    unfold chV
    go_enter Try.func37, Try.ntmps37
    go_wp2_with fail
    refine (rcheck_ok HOK.out H1.out).mono ?_
    rintro r w2 ⟨rfl, h2⟩
    clear y0 y1 y2 y3 y4 y5
    obtain ⟨y0, y1, y2, y3, y4, y5⟩ := box6 h2.skip
    go_wp2_with fail
    refine (Apart.rwords_ok HOK.out h2).mono ?_
    rintro r w3 ⟨rfl, h3⟩
    rw [HV.out]
    clear y0 y1 y2 y3 y4 y5
    obtain ⟨⟨z0, z1, z2, z3⟩, ⟨f0, f1, f2, f3⟩⟩ := boxK h3
    go_wp2_with fail
    have h9 := kset (sv' := .slice none 0 0) (hv' := .slice none 0 0) (l' := false) (lv' := .slice none 0 0) h3
    obtain ⟨⟨e0, e1, e2, e3⟩, -⟩ := boxK h9
    exact bodyPost_ret (v := .tuple #[.agg #[.slice none 0 0, .slice none 0 0, .bool false, .slice none 0 0], .int .i64 2]) (by simp [results, Try.f37, go_sem, e0, e1, e2, e3]) rfl ⟨rfl, h9.skip.skip⟩
/-- what See answers, of any chart and any words -/
def seeA (C S O d e key : Int) (g : List Nat) : CoreP × Int :=
  if Ok C S O d e ∧ (g.length : Int) = 4 * C + 4 + 4 * S + S * O then seeK (seeP ⟨C.toNat, S.toNat, O.toNat, key.toNat⟩ g) else (⟨[], [], false, []⟩, 2)
theorem seeA_small : SmallC (seeA C S O d e key g).1 := by
  unfold seeA
  by_cases h : Ok C S O d e ∧ (g.length : Int) = 4 * C + 4 + 4 * S + S * O
  · rw [if_pos h]
    have h1 := h.1
    unfold Ok at h1
    exact seeK_small ⟨by simp only; omega, by simp only; omega, by simp only; omega⟩
  · rw [if_neg h]
    exact ⟨by simp, by simp, by simp, (fun s hs => by simp at hs), (fun s hs => by simp at hs)⟩
/-- an answer of See -/
def SeeOut (W : World) (m : List (Nat × Obj)) (r : CoreP × Int) (e : Ending) (w' : World) : Prop :=
  ∃ v bs, e = .returned (.tuple #[v, .int .i64 r.2]) ∧ CoreO v r.1 bs ∧ Own W (bs ++ m) w'
/-- a slice that reads as words, whatever else there is -/
structure WRd (W : World) (m : List (Nat × Obj)) (v : Value) (g : List Nat) : Prop where
  src : ∀ ws, Own W m ws → WordsSrc ws v g
  w64 : W64 g
  cap : ∃ A c, v = .slice A g.length c ∧ g.length ≤ c ∧ c ≤ maxLen
theorem WRd.more {v : Value} {m' : List (Nat × Obj)} (h : WRd W m v g) : WRd W (m' ++ m) v g := ⟨fun ws hw => h.src ws hw.dropL, h.w64, h.cap⟩
theorem WRd.wok {v : Value} (hO : Own W m w) (h : WRd W m v g) {c : Ch} (hn : g.length = c.words) : ∃ B o k, v = .slice (some ⟨B, o, none⟩) g.length k ∧ WOk W m B o g.length k g c := by
  obtain ⟨A, k, rfl, h1, h2⟩ := h.cap
  have hpos : 0 < g.length := by rw [hn]; unfold Ch.words; omega
  rcases (h.src w hO).2 with ⟨_, h0⟩ | ⟨a, k', hv, hc⟩
  · omega
  · simp only [Value.slice.injEq, true_and] at hv
    obtain ⟨rfl, rfl⟩ := hv
    have hcell := hc 0 _ (words_get (List.getElem?_eq_getElem hpos))
    have hs : a.spot = none := by
      have := World.cell?_spot hcell
      simpa [Addr.add] using this
    obtain ⟨B, o, s⟩ := a
    simp only at hs
    subst hs
    refine ⟨B, o, k, rfl, fun ws hws j x hj => ?_, rfl, hn, h.w64, h1, h2⟩
    rcases (h.src ws hws).2 with ⟨h0, _⟩ | ⟨a', k', hv, hc'⟩
    · cases h0
    · simp only [Value.slice.injEq, true_and, Option.some.injEq] at hv
      obtain ⟨rfl, rfl⟩ := hv
      have := hc' j _ (words_get hj)
      rw [add_lit] at this
      exact this
theorem seeOut_of {r : Option CoreP} {e : Ending} {w' : World} (h : SeePost W m r e w') : SeeOut W m (seeK r) e w' := see_one h
theorem see_out (hO : Own W m w) (hv : WRd W m v g) (hkey : 0 ≤ key ∧ key < 18446744073709551616) : Calls Try.prog 36 #[v, chV C S O d e key] w (SeeOut W m (seeA C S O d e key g)) := by
  unfold seeA
  by_cases h : Ok C S O d e ∧ (g.length : Int) = 4 * C + 4 + 4 * S + S * O
  · rw [if_pos h]
    have h1 := h.1
    unfold Ok at h1
    have hw : g.length = (⟨C.toNat, S.toNat, O.toNat, key.toNat⟩ : Ch).words := by
      have := words_eq ⟨C.toNat, S.toNat, O.toNat, key.toNat⟩
      simp only at this
      rw [show ((C.toNat : Nat) : Int) = C from by omega, show ((S.toNat : Nat) : Int) = S from by omega, show ((O.toNat : Nat) : Int) = O from by omega, ← h.2] at this
      omega
    obtain ⟨B, o, k, rfl, hk⟩ := hv.wok hO hw
    have hc : COk ⟨C.toNat, S.toNat, O.toNat, key.toNat⟩ d e := ⟨by
      simp only
      rw [show ((C.toNat : Nat) : Int) = C from by omega, show ((S.toNat : Nat) : Int) = S from by omega, show ((O.toNat : Nat) : Int) = O from by omega]
      exact h.1, by simp only; omega⟩
    have hs := see_spec hO hc hk
    unfold cV at hs
    simp only at hs
    rw [show ((C.toNat : Nat) : Int) = C from by omega, show ((S.toNat : Nat) : Int) = S from by omega, show ((O.toNat : Nat) : Int) = O from by omega, show ((key.toNat : Nat) : Int) = key from by omega] at hs
    exact hs.mono fun _ _ h => seeOut_of h
  · rw [if_neg h]
    obtain ⟨A, k, rfl, -, -⟩ := hv.cap
    refine (see_bad hO (by
      by_cases hok : Ok C S O d e
      · exact .inr ⟨hok, fun he => h ⟨hok, he⟩⟩
      · exact .inl hok)).mono ?_
    rintro r w' ⟨rfl, h2⟩
    exact ⟨_, [], rfl, core_none, h2⟩
theorem rsee_out (hC : I64 C) (hS : I64 S) (hOO : I64 O) (hO : Own W m w) (hv : WRd W m v g) (hkey : 0 ≤ key ∧ key < 18446744073709551616) : Calls Try.prog 37 #[v, chV C S O d e key] w (SeeOut W m (seeA C S O d e key g)) := by
  unfold seeA
  by_cases h : Ok C S O d e ∧ (g.length : Int) = 4 * C + 4 + 4 * S + S * O
  · rw [if_pos h]
    have h1 := h.1
    unfold Ok at h1
    have hw : g.length = (⟨C.toNat, S.toNat, O.toNat, key.toNat⟩ : Ch).words := by
      have := words_eq ⟨C.toNat, S.toNat, O.toNat, key.toNat⟩
      simp only at this
      rw [show ((C.toNat : Nat) : Int) = C from by omega, show ((S.toNat : Nat) : Int) = S from by omega, show ((O.toNat : Nat) : Int) = O from by omega, ← h.2] at this
      omega
    obtain ⟨B, o, k, rfl, hk⟩ := hv.wok hO hw
    have hc : COk ⟨C.toNat, S.toNat, O.toNat, key.toNat⟩ d e := ⟨by
      simp only
      rw [show ((C.toNat : Nat) : Int) = C from by omega, show ((S.toNat : Nat) : Int) = S from by omega, show ((O.toNat : Nat) : Int) = O from by omega]
      exact h.1, by simp only; omega⟩
    have hs := r1see_spec hO hc hk
    unfold cV at hs
    simp only at hs
    rw [show ((C.toNat : Nat) : Int) = C from by omega, show ((S.toNat : Nat) : Int) = S from by omega, show ((O.toNat : Nat) : Int) = O from by omega, show ((key.toNat : Nat) : Int) = key from by omega] at hs
    exact hs.mono fun _ _ h => seeOut_of h
  · rw [if_neg h]
    obtain ⟨A, k, rfl, -, -⟩ := hv.cap
    refine (rsee_bad hC hS hOO hO (by
      by_cases hok : Ok C S O d e
      · exact .inr ⟨hok, fun he => h ⟨hok, he⟩⟩
      · exact .inl hok)).mono ?_
    rintro r w' ⟨rfl, h2⟩
    exact ⟨_, [], rfl, core_none, h2⟩
end
end Go.Proofs.Ytigakendeghoaaa.See

/-
  Contract: wainscotlaw22.listed, of words that See can read. No condition.
-/
namespace Go.Proofs.Ytigakendeghoaaa.Fast
open Go Mem See Step
open Go.RowKit
open Apart (chV chB box6 ChAt)
attribute [local go_sem ↓] Go.wp_at_zero Go.wp_at_succ
section
variable {W w : World} {m : List (Nat × Obj)} {b0 b1 N k : Nat} {g : List Nat} {c : Ch} {d e : Int}
theorem li_p1 {α : Type} (bs : List α) (x : α) (r : List α) : (bs ++ (x :: r)).Perm (x :: (bs ++ r)) := List.perm_middle
/-- what listed answers -/
def Listed (W : World) (m : List (Nat × Obj)) (x : SlotP) (r : Ending) (w' : World) : Prop :=
  ∃ A cp bs, r = .returned (.tuple #[.slice A x.list.length cp, .int .u64 (x.turn : Int), .bool true]) ∧ (∀ ws M, Own W (bs ++ M) ws → IntsSrc ws (.slice A x.list.length cp) x.list) ∧ Own W (bs ++ m) w'
theorem wrd_own {v : Value} {bs : List (Nat × Obj)} (h : WordsOwn true v g bs) (hw : W64 g) : WRd W (bs ++ m) v g := by
  obtain ⟨A, c, rfl, h1, h2⟩ := h.slice
  exact ⟨fun ws hws => SlO.src h hws, hw, ⟨A, c, rfl, by simpa using h1, h2⟩⟩
theorem li_p2 {α : Type} (a x y : α) (l : List α) : (a :: x :: y :: l).Perm (x :: y :: a :: l) := by
  classical
  rw [List.perm_iff_count]
  intro q
  simp only [List.count_cons]
  omega
theorem li_p3 {α : Type} (bs : List α) (a x y : α) (l : List α) : (bs ++ (x :: y :: a :: l)).Perm (bs ++ (a :: x :: y :: l)) := List.Perm.append_left bs (li_p2 a x y l).symm
theorem new_drew {m : List (Nat × Obj)} (h : Own W m w) (o : Obj) : Own W ((w.heap.size, o) :: m) (w.alloc o).drew := (h.new o).drew
theorem li_p5 {α : Type} (k a x y : α) (l : List α) : (k :: a :: x :: y :: l).Perm (a :: x :: y :: k :: l) := by
  classical
  rw [List.perm_iff_count]
  intro q
  simp only [List.count_cons]
  omega
theorem li_p6 {α : Type} (l1 : List α) (x : α) (l : List α) : (l1 ++ x :: l).Perm (x :: (l1 ++ l)) := List.perm_middle
theorem li_p7 {α : Type} (l1 l2 : List α) (a x y k : α) (l : List α) : (l1 ++ (l2 ++ (a :: x :: y :: k :: l))).Perm (k :: (l1 ++ (l2 ++ (a :: x :: y :: l)))) := by
  classical
  rw [List.perm_iff_count]
  intro q
  simp only [List.count_append, List.count_cons]
  omega
theorem li_sub {α : Type} (l1 l2 : List α) (a : α) (l : List α) : (l1 ++ l).Sublist (l1 ++ (l2 ++ (a :: l))) :=
  (List.Sublist.refl l1).append (((List.sublist_cons_self a l)).trans (List.sublist_append_right l2 _))
theorem li_p4 {α : Type} (x : α) (l1 l2 : List α) (a : α) (l : List α) : (x :: (l1 ++ (l2 ++ (a :: l)))).Perm (x :: a :: ((l1 ++ l2) ++ l)) := by
  classical
  rw [List.perm_iff_count]
  intro q
  simp only [List.count_append, List.count_cons]
  omega
/-- the words, in any world -/
theorem li_words {b : Nat} (hO : Own W (chB b c.C c.S c.O d e c.key :: mB b0 b1 N k :: wB b1 g :: m) w) (hc : COk c d e) (hN : g.length = N) (hNw : N = c.words) (hw : W64 g) :
    Calls Try.prog 75 #[.pointer (some ⟨b0, 0, none⟩)] w fun r w' => ∃ B o cp bs, r = .returned (.slice (some ⟨B, o, none⟩) N cp) ∧ Hid (WOk W (bs ++ (chB b c.C c.S c.O d e c.key :: mB b0 b1 N k :: wB b1 g :: m)) B o N cp g c) ∧ Own W (bs ++ (chB b c.C c.S c.O d e c.key :: mB b0 b1 N k :: wB b1 g :: m)) w' := by
  refine (words_spec (hO.perm (li_p2 _ _ _ _)) hN (by rw [hNw]; exact (words_le hc).1)).mono ?_
  rintro r w' ⟨v', bs, rfl, hv, h2⟩
  have h3 := h2.perm (li_p3 _ _ _ _ _)
  obtain ⟨B, o, cp, rfl, hk⟩ := (wrd_own (m := chB b c.C c.S c.O d e c.key :: mB b0 b1 N k :: wB b1 g :: m) hv hw).wok h3 (c := c) (by rw [hN, hNw])
  rw [hN] at hk ⊢
  exact ⟨B, o, cp, bs, rfl, hk, h3⟩
/-- what the core says of its one slot -/
def OneSlot (W : World) (bs : List (Nat × Obj)) (g1 : Nat) (A : Option Addr) (cp : Nat) (x : SlotP) : Prop :=
  ∀ ws M, Own W (bs ++ M) ws → (ws.cell? ⟨g1, 0, none⟩ = some (.int .i64 0) ∧ ws.cell? ⟨g1, 1, none⟩ = some (.slice A x.list.length cp) ∧ ws.cell? ⟨g1, 2, none⟩ = some (.int .u64 (x.turn : Int))) ∧ IntsSrc ws (.slice A x.list.length cp) x.list
theorem li_see {B o cp : Nat} {M : List (Nat × Obj)} (hO : Own W M w) (hc : COk c d e) (hk : WOk W M B o N cp g c) {K : CoreP} {x : SlotP} (hs : seeP c g = some K) (hx : K.slots = [x]) (h0 : x.slab = 0) :
    Calls Try.prog 36 #[.slice (some ⟨B, o, none⟩) N cp, cV c d e] w fun r w' => ∃ g1 c0 A1 l1 c1 lk A2 l2 c2 A cA bs, r = .returned (.tuple #[.agg #[.slice (some ⟨g1, 0, none⟩) 1 c0, .slice A1 l1 c1, .bool lk, .slice A2 l2 c2], .int .i64 0]) ∧ Hid (OneSlot W bs g1 A cA x) ∧ Own W (bs ++ M) w' := by
  refine (see_spec hO hc hk).mono ?_
  rintro r w' h
  rw [hs] at h
  obtain ⟨v, bs, rfl, hK, h2⟩ := h
  obtain ⟨A0, A1, A2, c0, c1, c2, Ls, Ll, rfl, P⟩ := core_parts hK.out
  have he := P.es
  rw [hx] at he
  obtain ⟨s, rfl⟩ : ∃ s, Ls = [s] := by
    have h1 : Ls.length = 1 := by have h1 := congrArg List.length he; rw [List.length_map] at h1; exact h1
    exact List.length_eq_one_iff.1 h1
  have hsx : s.x = x := by simpa using he
  have hlen : K.slots.length = 1 := by rw [hx]; rfl
  have h3 := fun ws M' (h : Own W (bs ++ M') ws) => P.slots h (i := 0) (s := s) rfl (by omega)
  obtain ⟨⟨g1, rfl, -⟩, h5, -⟩ := h3 w' M h2
  obtain ⟨A, cA, hsl⟩ := src_slice h5
  rw [hlen]
  refine ⟨g1, c0, A1, K.shelf.length, c1, K.locked, A2, K.slabs.length, c2, A, cA, bs, rfl, fun ws M' hws => ?_, h2⟩
  obtain ⟨⟨g2, hg, q0, q1, q2, -, -⟩, q5, -⟩ := h3 ws M' hws
  obtain rfl : g1 = g2 := by
    simp only [Option.some.injEq, Addr.mk.injEq, and_true] at hg
    exact hg
  simp only [Nat.zero_mul, Nat.zero_add] at q0 q1 q2
  rw [hsx] at q5 hsl
  rw [hsx, h0] at q0
  rw [hsx] at q2
  rw [hsl] at q1 q5
  exact ⟨⟨q0, q1, q2⟩, q5⟩
set_option maxRecDepth 100000 in
set_option maxHeartbeats 8000000 in
theorem listed_spec (hO : Own W (mB b0 b1 N k :: wB b1 g :: m) w) (hc : COk c d e) (hN : g.length = N) (hNw : N = c.words) (hw : W64 g) {K : CoreP} {x : SlotP} (hs : seeP c g = some K) (hx : K.slots = [x]) (h0 : x.slab = 0) :
    Calls Try.prog 46 #[.pointer (some ⟨b0, 0, none⟩), cV c d e] w (Listed W (mB b0 b1 N k :: wB b1 g :: m) x) := by
  have h1 : Own W (chB w.heap.size c.C c.S c.O d e c.key :: mB b0 b1 N k :: wB b1 g :: m) _ := hO.new (.cells #[.int .i64 c.C, .int .i64 c.S, .int .i64 c.O, .int .i64 d, .int .i64 e, .int .u64 c.key] 24)
  obtain ⟨b, hb⟩ : ∃ b, w.heap.size = b := ⟨_, rfl⟩
  rw [hb] at h1
  obtain ⟨y0, y1, y2, y3, y4, y5⟩ := box6 h1
  have H1 := Lib.hid h1
  have HC := Lib.hid hc
  have HN := Lib.hid hN
  have HNW := Lib.hid hNw
  have HW := Lib.hid hw
  have HS := Lib.hid hs
  have HX := Lib.hid hx
  have HX0 := Lib.hid h0
  clear hO h1 hc hN hNw hw hs hx h0
  unfold cV chV
  go_enter Try.func46, Try.ntmps46
  go_wp2_with fail
  all_goals (try rw [hb])
  obtain ⟨wa, hwa⟩ : ∃ wa, w.alloc (.cells #[.int .i64 c.C, .int .i64 c.S, .int .i64 c.O, .int .i64 d, .int .i64 e, .int .u64 c.key] 24) = wa := ⟨_, rfl⟩
  rw [hwa] at H1 y0 y1 y2 y3 y4 y5 ⊢
  clear hwa hb
  obtain ⟨x0, x1, x2, x3, x4, x5⟩ := box6 (H1.out.new (.cells #[.slice none 0 0, .slice none 0 0, .bool false, .slice none 0 0] 40)).skip
  go_region_with (first
    | (go_at_call 75; refine (li_words H1.out.drew HC.out HN.out HNW.out HW.out).mono ?_; rintro r w2 ⟨B, o, cp, bsW, rfl, HK, h2⟩; have H2 := Lib.hid h2; clear h2; obtain ⟨z0, z1, z2, z3, z4, z5⟩ := box6 H2.out.dropL; obtain ⟨r0, r1, r2, r3, r4, r5⟩ := box6 (H2.out.new (.cells #[.slice none 0 0, .slice none 0 0, .bool false, .slice none 0 0] 40)).skip.dropL)
    | (go_at_call 75; refine (li_words ((new_drew H1.out (.cells #[.slice none 0 0, .slice none 0 0, .bool false, .slice none 0 0] 40)).perm (li_p5 _ _ _ _ _)) HC.out HN.out HNW.out HW.out).mono ?_; rintro r w2 ⟨B, o, cp, bsW, rfl, HK, h2⟩; have H2 := Lib.hid h2; clear h2; obtain ⟨z0, z1, z2, z3, z4, z5⟩ := box6 H2.out.dropL; obtain ⟨r0, r1, r2, r3, r4, r5⟩ := box6 (H2.out.new (.cells #[.slice none 0 0, .slice none 0 0, .bool false, .slice none 0 0] 40)).skip.dropL)
    | (go_at_call 36; refine (li_see H2.out HC.out HK.out HS.out HX.out HX0.out).mono ?_; rintro r w3 ⟨g1, c0, A1, l1, c1, lk, A2, l2, c2, A, cA, bsK, rfl, HO, h3⟩; have H3 := Lib.hid h3; clear h3; obtain ⟨⟨t0, t1, t2, t3⟩, tf0, tf1, tf2, tf3⟩ := boxK (H3.out.new (.cells #[.slice none 0 0, .slice none 0 0, .bool false, .slice none 0 0] 40)); (try obtain ⟨⟨u0, u1, u2, u3⟩, uf0, uf1, uf2, uf3⟩ := boxK H3.out.dropL.dropL.skip.skip.skip))
    | (go_at_call 36; refine (li_see (H2.out.new (.cells #[.slice none 0 0, .slice none 0 0, .bool false, .slice none 0 0] 40)) HC.out (WOk.more (m' := [(_, (.cells #[.slice none 0 0, .slice none 0 0, .bool false, .slice none 0 0] 40))]) HK.out) HS.out HX.out HX0.out).mono ?_; rintro r w3 ⟨g1, c0, A1, l1, c1, lk, A2, l2, c2, A, cA, bsK, rfl, HO, h3⟩; have H3 := Lib.hid h3; clear h3; obtain ⟨⟨t0, t1, t2, t3⟩, tf0, tf1, tf2, tf3⟩ := boxK (H3.out.new (.cells #[.slice none 0 0, .slice none 0 0, .bool false, .slice none 0 0] 40)); obtain ⟨⟨u0, u1, u2, u3⟩, uf0, uf1, uf2, uf3⟩ := boxK H3.out.dropL))
  all_goals clear x0 x1 x2 x3 x4 x5 y0 y1 y2 y3 y4 y5
  all_goals
    first
      | (have h5 : ∃ w5, w3.alloc (.cells #[.slice (some ⟨g1, 0, none⟩) 1 c0, .slice A1 l1 c1, .bool lk, .slice A2 l2 c2] 40) = w5 ∧ Hid (Own W (kBlk w3.heap.size (.slice (some ⟨g1, 0, none⟩) 1 c0) (.slice A1 l1 c1) lk (.slice A2 l2 c2) :: (bsK ++ (bsW ++ (chB b c.C c.S c.O d e c.key :: mB b0 b1 N k :: wB b1 g :: m)))) w5) := ⟨_, rfl, H3.out.new (.cells #[.slice (some ⟨g1, 0, none⟩) 1 c0, .slice A1 l1 c1, .bool lk, .slice A2 l2 c2] 40)⟩; obtain ⟨w5, hw5, h5⟩ := h5; rw [hw5]; clear hw5; obtain ⟨q, hq⟩ : ∃ q, w3.heap.size = q := ⟨_, rfl⟩; rw [hq] at h5 ⊢; clear hq)
      | (have h5 : ∃ w5, ((((w3).setCell ⟨w2.heap.size, 0, none⟩ (.slice (some ⟨g1, 0, none⟩) 1 c0)).setCell ⟨w2.heap.size, 1, none⟩ (.slice A1 l1 c1)).setCell ⟨w2.heap.size, 2, none⟩ (.bool lk)).setCell ⟨w2.heap.size, 3, none⟩ (.slice A2 l2 c2) = w5 ∧ Hid (Own W (kBlk w2.heap.size (.slice (some ⟨g1, 0, none⟩) 1 c0) (.slice A1 l1 c1) lk (.slice A2 l2 c2) :: (bsK ++ (bsW ++ (chB b c.C c.S c.O d e c.key :: mB b0 b1 N k :: wB b1 g :: m)))) w5) := ⟨_, rfl, kset (H3.out.perm (li_p6 _ _ _))⟩; obtain ⟨w5, hw5, h5⟩ := h5; rw [hw5]; clear hw5; obtain ⟨q, hq⟩ : ∃ q, w2.heap.size = q := ⟨_, rfl⟩; rw [hq] at h5 ⊢; clear hq)
      | (have h5 : ∃ w5, ((((w3).setCell ⟨wa.heap.size, 0, none⟩ (.slice (some ⟨g1, 0, none⟩) 1 c0)).setCell ⟨wa.heap.size, 1, none⟩ (.slice A1 l1 c1)).setCell ⟨wa.heap.size, 2, none⟩ (.bool lk)).setCell ⟨wa.heap.size, 3, none⟩ (.slice A2 l2 c2) = w5 ∧ Hid (Own W (kBlk wa.heap.size (.slice (some ⟨g1, 0, none⟩) 1 c0) (.slice A1 l1 c1) lk (.slice A2 l2 c2) :: (bsK ++ (bsW ++ (chB b c.C c.S c.O d e c.key :: mB b0 b1 N k :: wB b1 g :: m)))) w5) := ⟨_, rfl, kset (H3.out.perm (li_p7 _ _ _ _ _ _ _))⟩; obtain ⟨w5, hw5, h5⟩ := h5; rw [hw5]; clear hw5; obtain ⟨q, hq⟩ : ∃ q, wa.heap.size = q := ⟨_, rfl⟩; rw [hq] at h5 ⊢; clear hq)
  all_goals
    clear H3
    obtain ⟨⟨k0, k1, k2, k3⟩, kf0, kf1, kf2, kf3⟩ := boxK h5.out
    obtain ⟨⟨o0, o1, o2⟩, -⟩ := HO.out _ _ h5.out.skip
    go_wp2_with fail
    go_quiet (fail)
    go_wp2_with fail
    exact bodyPost_ret (v := .tuple #[.slice A x.list.length cA, .int .u64 (x.turn : Int), .bool true]) (by simp [results, Try.f46, go_sem]) rfl ⟨A, cA, bsK, rfl, fun ws M h => (HO.out ws M h).2, (h5.out.drewN _).skip.sub (li_sub _ _ _ _)⟩
end
end Go.Proofs.Ytigakendeghoaaa.Fast

/-
  What FastAlone and FastApart share. No condition.
-/
namespace Go.Proofs.Ytigakendeghoaaa.Fast
theorem root : True := trivial
end Go.Proofs.Ytigakendeghoaaa.Fast
