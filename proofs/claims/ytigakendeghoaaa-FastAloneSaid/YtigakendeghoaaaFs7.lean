/-
  Texts of this claim, joined. No condition.
-/
import Derived.Test.YtigakendeghoaaaFs5
import Derived.Test.YtigakendeghoaaaFs6
import Derived.Test.YtigakendeghoaaaFs2
import Derived.Test.YtigakendeghoaaaFs4
import Derived.Laws.CopyRow
/-
  What words say hangs on the named ones alone. Plain. No condition.
-/
namespace Go.Proofs.Ytigakendeghoaaa.See
open Apart (pl cpuPl slabPl)
variable {c : Ch} {g g' : List Nat}
theorem links_get (hO : g.length = c.words) {s : Nat} (hs : s < c.S) {i : Nat} (hi : i < c.O) : (links c g s)[i]? = some (at_ g (4 * c.C + 4 + 4 * c.S + s * c.O + i)) := by
  have hm : s * c.O + c.O ≤ c.S * c.O := by
    have := Nat.mul_le_mul_right c.O (show s + 1 ≤ c.S by omega)
    rw [Nat.succ_mul] at this
    exact this
  unfold Ch.words at hO
  unfold links at_
  rw [List.getElem?_take, if_pos hi, List.getElem?_drop, List.getElem?_eq_getElem (by omega), List.getD_eq_getElem?_getD, List.getElem?_eq_getElem (by omega)]
  rfl
theorem links_len (hO : g.length = c.words) {s : Nat} (hs : s < c.S) : (links c g s).length = c.O := by
  have hm : s * c.O + c.O ≤ c.S * c.O := by
    have := Nat.mul_le_mul_right c.O (show s + 1 ≤ c.S by omega)
    rw [Nat.succ_mul] at this
    exact this
  unfold Ch.words at hO
  unfold links
  rw [List.length_take, List.length_drop]
  omega
theorem chain_congr {of : Nat → Option Int} {nx nx' : Int → Nat} {S : Nat} (h0 : ∀ w s, of w = some s → -1 ≤ s) (h : ∀ s : Int, 0 ≤ s → s < S → nx s = nx' s) : ∀ (n : Nat) (out : List Int) (w : Nat), chain of nx S n out w = chain of nx' S n out w
  | 0, _, _ => rfl
  | n + 1, out, w => by
    unfold chain
    cases hw : of w with
    | none => rfl
    | some s =>
      have := h0 w s hw
      simp only
      by_cases h1 : (S : Int) ≤ s ∨ s ∈ out
      · rw [if_pos h1, if_pos h1]
      · rw [if_neg h1, if_neg h1]
        by_cases h2 : s = -1
        · rw [if_pos h2, if_pos h2]
        · rw [if_neg h2, if_neg h2, h s (by omega) (by omega)]
          exact chain_congr h0 h n _ _
theorem partOf_ge {w : Nat} {s : Int} (h : (partOf w).map (·.1) = some s) : -1 ≤ s := by
  unfold partOf at h
  split at h
  · simp at h; omega
  · split at h
    · simp at h; omega
    · cases h
theorem shelfOf_ge {w : Nat} {s : Int} (h : shelfOf w = some s) : -1 ≤ s := by
  unfold shelfOf at h
  split at h
  · simp at h; omega
  · cases h
theorem headOf_ge {w : Nat} {s o : Int} (h : headOf w = some (s, o)) : (s = -1 ∧ o = -1) ∨ (0 ≤ s ∧ s < 32 ∧ -1 ≤ o ∧ o < 16) := by
  unfold headOf at h
  split at h
  · simp at h; omega
  · split at h
    · simp at h; omega
    · cases h
theorem upto_congr {α : Type} {f f' : Nat → Option α} : ∀ {n : Nat}, (∀ i, i < n → f i = f' i) → upto f n = upto f' n
  | 0, _ => rfl
  | n + 1, h => by
    unfold upto
    rw [upto_congr (n := n) fun i hi => h i (by omega), h n (by omega)]
theorem see_congr (hg : g.length = c.words) (hg' : g'.length = c.words) (h : ∀ x ∈ pl c.C c.S c.O, at_ g x = at_ g' x) : seeP c g = seeP c g' := by
  have hcpu : ∀ i, i < c.C → ∀ x ∈ cpuPl i, at_ g x = at_ g' x := fun i hi x hx => h x (by
    unfold pl
    exact List.mem_append_right _ (List.mem_append_left _ (List.mem_flatMap.2 ⟨i, List.mem_range.2 hi, hx⟩)))
  have hslab : ∀ s, s < c.S → ∀ x ∈ slabPl c.C c.S c.O s, at_ g x = at_ g' x := fun s hs x hx => h x (by
    unfold pl
    exact List.mem_append_right _ (List.mem_append_right _ (List.mem_flatMap.2 ⟨s, List.mem_range.2 hs, hx⟩)))
  have hnext : ∀ s : Int, 0 ≤ s → s < c.S → nextAt c g s = nextAt c g' s := fun s h0 h1 => hslab s.toNat (by omega) _ (by simp [slabPl])
  have hlinks : ∀ s, s < c.S → links c g s = links c g' s := fun s hs => by
    apply List.ext_getElem?
    intro i
    by_cases hi : i < c.O
    · rw [links_get hg hs hi, links_get hg' hs hi, hslab s hs _ (by
        unfold slabPl
        exact List.mem_append_right _ (List.mem_map.2 ⟨i, List.mem_range.2 hi, rfl⟩))]
    · rw [List.getElem?_eq_none (by rw [links_len hg hs]; omega), List.getElem?_eq_none (by rw [links_len hg' hs]; omega)]
  have hlist : ∀ s i : Int, listP c g s i = listP c g' s i := fun s i => by
    unfold listP
    by_cases hc : 0 ≤ s ∧ s < c.S ∧ -1 ≤ i ∧ i < c.O
    · rw [if_pos hc, if_pos hc, hlinks s.toNat (by omega)]
    · rw [if_neg hc, if_neg hc]
  have hparts : ∀ w : Nat, partsP c g w = partsP c g' w := fun w => chain_congr (fun w s hw => partOf_ge hw) hnext _ _ _
  have e1 : upto (slotP c g) c.C = upto (slotP c g') c.C := upto_congr fun i hi => by
    unfold slotP
    have k := hcpu i hi
    rw [k (4 * i) (by simp [cpuPl]), k (4 * i + 1) (by simp [cpuPl]), k (4 * i + 2) (by simp [cpuPl])]
    simp only [hlist, hparts]
  have e2 : shelfP c g = shelfP c g' := by
    unfold shelfP
    rw [h (4 * c.C + 1) (by simp [pl])]
    exact chain_congr (fun w s hw => shelfOf_ge hw) hnext _ _ _
  have e3 : upto (slabP c g) c.S = upto (slabP c g') c.S := upto_congr fun s hs => by
    unfold slabP
    have k := hslab s hs
    rw [k (4 * c.C + 4 + 4 * s) (by simp [slabPl]), k (4 * c.C + 4 + 4 * s + 1) (by simp [slabPl])]
    simp only [hlist]
  unfold seeP
  rw [e1, e2, e3, h (4 * c.C) (by simp [pl])]
end Go.Proofs.Ytigakendeghoaaa.See

/-
  Contracts: a slab's list (reader.list), its key. No condition.
-/
namespace Go.Proofs.Ytigakendeghoaaa.See
open Go.RowKit
open Apart (chV)
open chartPlaces (Ok)
attribute [local go_sem ↓] Go.wp_at_zero Go.wp_at_succ
/-- a chart that may be -/
structure COk (c : Ch) (d e : Int) : Prop where
  ok : Ok c.C c.S c.O d e
  key : c.key < 18446744073709551616
theorem COk.nums {c : Ch} {d e : Int} (h : COk c d e) : 1 ≤ c.C ∧ c.C ≤ 8 ∧ 1 ≤ c.S ∧ c.S ≤ 32 ∧ 1 ≤ c.O ∧ c.O ≤ 16 := by
  have := h.ok
  unfold Ok at this
  omega
abbrev cV (c : Ch) (d e : Int) : Value := chV c.C c.S c.O d e c.key
/-- a reader -/
abbrev rV (B o N k : Nat) (c : Ch) (d e : Int) : Value := .agg #[.slice (some ⟨B, o, none⟩) N k, .int .i64 c.C, .int .i64 c.S, .int .i64 c.O, .int .i64 d, .int .i64 e, .int .u64 c.key]
theorem keyOf_lt (k s : Nat) : keyOf k s < 18446744073709551616 := Nat.mod_lt _ (by omega)
section
variable {W w : World} {m : List (Nat × Obj)} {B o N k : Nat} {g : List Nat} {c : Ch} {d e : Int}
set_option maxRecDepth 100000 in
theorem key_spec (s : Nat) (hs : s < 32) (h : Own W m w) : Calls Try.prog 32 #[cV c d e, .int .i64 s] w fun r w' => r = .returned (.int .u64 (keyOf c.key s : Nat)) ∧ Own W m w' := by
  have h1 := h.alloc (.cells #[.int .i64 c.C, .int .i64 c.S, .int .i64 c.O, .int .i64 d, .int .i64 e, .int .u64 c.key] 24)
  have hv : IntKind.u64.wrap ((c.key : Int) + IntKind.u64.wrap ((s : Int) * 11400714819323198485)) = ((keyOf c.key s : Nat) : Int) := by
    unfold keyOf
    rw [IntKind.wrap_u64, IntKind.wrap_u64]
    omega
  have HV := Lib.hid hv
  clear hv
  unfold cV chV
  go_enter Try.func32, Try.ntmps32
  go_wp2_with fail
  go_ret
  exact ⟨by rw [← HV.out]; rfl, h1⟩
/-- words of a core: as many as its chart says -/
structure WOk (W : World) (m : List (Nat × Obj)) (B o N k : Nat) (g : List Nat) (c : Ch) : Prop where
  rd : Rd W m B o g
  len : g.length = N
  n : N = c.words
  w64 : W64 g
  nk : N ≤ k
  km : k ≤ maxLen
theorem WOk.more {m' : List (Nat × Obj)} (h : WOk W m B o N k g c) : WOk W (m' ++ m) B o N k g c := ⟨h.rd.more, h.len, h.n, h.w64, h.nk, h.km⟩
theorem mul_in {s : Nat} (hs : s < c.S) : s * c.O + c.O ≤ c.S * c.O := by
  have := Nat.mul_le_mul_right c.O (show s + 1 ≤ c.S by omega)
  rw [Nat.succ_mul] at this
  exact this
theorem rd_links (h : WOk W m B o N k g c) {s : Nat} (hs : s < c.S) : Rd W m B (o + (4 * c.C + 4 + 4 * c.S + s * c.O)) (links c g s) := fun ws hw j x hj => by
  have hlt := (List.getElem?_eq_some_iff.1 hj).1
  rw [links_len (h.len.trans h.n) hs] at hlt
  rw [links_get (h.len.trans h.n) hs hlt] at hj
  have hm := mul_in hs
  have hn := h.len.trans h.n
  unfold Ch.words at hn
  have hx : g[4 * c.C + 4 + 4 * c.S + s * c.O + j]? = some x := by
    rw [List.getElem?_eq_getElem (by omega)]
    unfold at_ at hj
    rw [List.getD_eq_getElem?_getD, List.getElem?_eq_getElem (by omega)] at hj
    exact hj
  have := h.rd ws hw _ x hx
  rw [← Nat.add_assoc] at this
  exact this
theorem w64_links (h : WOk W m B o N k g c) (s : Nat) : W64 (links c g s) := fun x hx => by
  unfold links at hx
  exact h.w64 x (List.mem_of_mem_drop (List.mem_of_mem_take hx))
/-- a reader's block -/
def rBlk (b B o N k : Nat) (c : Ch) (d e : Int) : Nat × Obj := (b, .cells #[.slice (some ⟨B, o, none⟩) N k, .int .i64 c.C, .int .i64 c.S, .int .i64 c.O, .int .i64 d, .int .i64 e, .int .u64 c.key] 84)
theorem box7 {b : Nat} (h : Own W (rBlk b B o N k c d e :: m) w) : w.cell? ⟨b, 0, none⟩ = some (.slice (some ⟨B, o, none⟩) N k) ∧ w.cell? ⟨b, 1, none⟩ = some (.int .i64 c.C) ∧ w.cell? ⟨b, 2, none⟩ = some (.int .i64 c.S) ∧ w.cell? ⟨b, 3, none⟩ = some (.int .i64 c.O) ∧ w.cell? ⟨b, 4, none⟩ = some (.int .i64 d) ∧ w.cell? ⟨b, 5, none⟩ = some (.int .i64 e) ∧ w.cell? ⟨b, 6, none⟩ = some (.int .u64 c.key) :=
  ⟨h.cell List.mem_cons_self 0, h.cell List.mem_cons_self 1, h.cell List.mem_cons_self 2, h.cell List.mem_cons_self 3, h.cell List.mem_cons_self 4, h.cell List.mem_cons_self 5, h.cell List.mem_cons_self 6⟩
/-- what list answers -/
def RlPost (W : World) (m : List (Nat × Obj)) (r : Option (List Int)) (e : Ending) (w' : World) : Prop := match r with
  | some l => ∃ v bs, e = .returned (.tuple #[v, .bool true]) ∧ Hid (IntsOwn true v l bs) ∧ Own W (bs ++ m) w'
  | none => e = .returned (.tuple #[.slice none 0 0, .bool false]) ∧ Own W m w'
theorem listP_in {s : Nat} (hs : s < c.S) {i : Int} (h0 : -1 ≤ i) (h1 : i < c.O) : listP c g s i = walk (shW (keyOf c.key s)) (links c g s) (c.O + 1) [] i := by
  unfold listP
  rw [if_pos ⟨by omega, by omega, h0, h1⟩]
  rfl
theorem listP_out {s : Nat} {i : Int} (h1 : (c.O : Int) ≤ i) : listP c g s i = none := by
  unfold listP
  rw [if_neg (by omega)]
set_option maxRecDepth 100000 in
set_option maxHeartbeats 2000000 in
theorem rlist_spec (h : Own W m w) (hc : COk c d e) (hw : WOk W m B o N k g c) (s : Nat) (hs : s < c.S) (i : Int) (hi : -1 ≤ i) :
    Calls Try.prog 81 #[rV B o N k c d e, .int .i64 s, .int .i64 i] w (RlPost W m (listP c g s i)) := by
  obtain ⟨n1, n2, n3, n4, n5, n6⟩ := hc.nums
  have h1 := h.new (.cells #[.slice (some ⟨B, o, none⟩) N k, .int .i64 c.C, .int .i64 c.S, .int .i64 c.O, .int .i64 d, .int .i64 e, .int .u64 c.key] 84)
  obtain ⟨b, hb⟩ : ∃ b, w.heap.size = b := ⟨_, rfl⟩
  rw [hb] at h1
  have h1 : Own W (rBlk b B o N k c d e :: m) _ := h1
  obtain ⟨y0, y1, y2, y3, y4, y5, y6⟩ := box7 h1
  by_cases hio : i < c.O
  · have hnio : ¬ (c.O : Int) ≤ i := by omega
    have hsi : 0 ≤ (s : Int) ∧ (s : Int) < (c.S : Int) := by omega
    have hm := mul_in hs
    have hN := hw.n
    unfold Ch.words at hN
    have hle : 4 * c.C + 4 + 4 * c.S + s * c.O + c.O ≤ N := by omega
    have hnk := hw.nk
    have hkm := hw.km
    have hls := fun ws (hws : Own W (rBlk b B o N k c d e :: m) ws) => list_spec (c := k - (4 * c.C + 4 + 4 * c.S + s * c.O)) hws ((rd_links hw hs).more (m' := [rBlk b B o N k c d e])) (n := c.O) (links_len (hw.len.trans hw.n) hs) n6 (w64_links hw s) (by omega) (by omega) (keyOf c.key s) (keyOf_lt _ _) i hi hio
    rw [← listP_in hs hi hio] at hls
    clear hN hm hkm
    have HC := Lib.hid hc
    have HS := Lib.hid hsi
    have HM := Lib.hid hw.rd
    obtain ⟨p, hp⟩ : ∃ p : Nat, 4 * c.C + 4 + 4 * c.S + s * c.O = p := ⟨_, rfl⟩
    have hpi : 4 * (c.C : Int) + 4 + 4 * (c.S : Int) + (s : Int) * (c.O : Int) + 0 = (p : Int) := by rw [← hp]; push_cast; omega
    have HPI := Lib.hid hpi
    rw [hp] at hle hls
    have hs32 : s < 32 := by omega
    have hp0 : (0 : Int) ≤ (p : Int) := by omega
    have hpN : p ≤ 700 := by
      have := Nat.mul_le_mul (show s ≤ 32 by omega) n6
      omega
    have hw1 : IntKind.i64.wrap ((p : Int) + (c.O : Int)) = (p : Int) + (c.O : Int) := by rw [IntWalk.i64_in] <;> omega
    have hp1 : (p : Int) ≤ (p : Int) + (c.O : Int) := by omega
    have hp2 : (p : Int) + (c.O : Int) ≤ (N : Int) := by omega
    have hp3 : (p : Int) + (c.O : Int) ≤ (k : Int) := by omega
    have HLN : Hid (((p : Int) + (c.O : Int)).toNat - p = c.O) := by
      show _ = _
      omega
    clear hp hpi hw hc
    obtain ⟨R, hR⟩ : ∃ R, listP c g s i = R := ⟨_, rfl⟩
    rw [hR] at hls ⊢
    clear hR
    unfold rV
    cases R with
    | none =>
      have HL := Lib.hid hls
      clear hls
      go_enter Try.func81, Try.ntmps81
      go_wp2_with fail
      refine (Apart.link_ok HC.out.ok HS.out (k := 0) (by omega) h1).mono ?_
      rintro r w2 ⟨rfl, h2⟩
      rw [HPI.out]
      clear y0 y1 y2 y3 y4 y5 y6
      obtain ⟨y0, y1, y2, y3, y4, y5, y6⟩ := box7 h2
      have H2 := Lib.hid h2
      clear h1 h2
      go_wp2_with fail
      go_region_held3 (fun w' => w'.cell? ⟨b, 0, none⟩ = some (.slice (some ⟨B, o, none⟩) N k) ∧ w'.cell? ⟨b, 1, none⟩ = some (.int .i64 c.C) ∧ w'.cell? ⟨b, 2, none⟩ = some (.int .i64 c.S) ∧ w'.cell? ⟨b, 3, none⟩ = some (.int .i64 c.O) ∧ w'.cell? ⟨b, 4, none⟩ = some (.int .i64 d) ∧ w'.cell? ⟨b, 5, none⟩ = some (.int .i64 e) ∧ w'.cell? ⟨b, 6, none⟩ = some (.int .u64 c.key)) (first | (refine ⟨?_, ?_, ?_, ?_, ?_, ?_, ?_⟩ <;> assumption) | go_keep)
        (first | (go_at_call 32; refine (key_spec s hs32 H2.out.drew).mono ?_; rintro r w3 ⟨rfl, h3⟩; obtain ⟨y0, y1, y2, y3, y4, y5, y6⟩ := box7 h3) |
          (go_at_call 103; rw [HLN.out]; refine (HL.out _ h3).mono ?_; rintro r w4 ⟨rfl, h4⟩; obtain ⟨y0, y1, y2, y3, y4, y5, y6⟩ := box7 h4))
      go_wp2_with fail
      go_ret2
      exact ⟨rfl, h4.skip⟩
    | some l =>
      have HL := Lib.hid hls
      clear hls
      go_enter Try.func81, Try.ntmps81
      go_wp2_with fail
      refine (Apart.link_ok HC.out.ok HS.out (k := 0) (by omega) h1).mono ?_
      rintro r w2 ⟨rfl, h2⟩
      rw [HPI.out]
      clear y0 y1 y2 y3 y4 y5 y6
      obtain ⟨y0, y1, y2, y3, y4, y5, y6⟩ := box7 h2
      have H2 := Lib.hid h2
      clear h1 h2
      go_wp2_with fail
      go_region_held3 (fun w' => w'.cell? ⟨b, 0, none⟩ = some (.slice (some ⟨B, o, none⟩) N k) ∧ w'.cell? ⟨b, 1, none⟩ = some (.int .i64 c.C) ∧ w'.cell? ⟨b, 2, none⟩ = some (.int .i64 c.S) ∧ w'.cell? ⟨b, 3, none⟩ = some (.int .i64 c.O) ∧ w'.cell? ⟨b, 4, none⟩ = some (.int .i64 d) ∧ w'.cell? ⟨b, 5, none⟩ = some (.int .i64 e) ∧ w'.cell? ⟨b, 6, none⟩ = some (.int .u64 c.key)) (first | (refine ⟨?_, ?_, ?_, ?_, ?_, ?_, ?_⟩ <;> assumption) | go_keep)
        (first | (go_at_call 32; refine (key_spec s hs32 H2.out.drew).mono ?_; rintro r w3 ⟨rfl, h3⟩; obtain ⟨y0, y1, y2, y3, y4, y5, y6⟩ := box7 h3) |
          (go_at_call 103; rw [HLN.out]; refine (HL.out _ h3).mono ?_; rintro r w4 ⟨v4, bs4, rfl, K4, h4⟩; obtain ⟨y0, y1, y2, y3, y4, y5, y6⟩ := box7 (h4.perm List.perm_middle)))
      go_wp2_with fail
      go_ret2
      exact ⟨v4, bs4, rfl, K4, h4.drop1⟩
  · have hnio : (c.O : Int) ≤ i := by omega
    rw [listP_out hnio]
    unfold rV
    go_enter Try.func81, Try.ntmps81
    go_wp2_with fail
    go_ret2
    exact ⟨rfl, h1.skip⟩
end
end Go.Proofs.Ytigakendeghoaaa.See

/-
  Tasks and charts in plain Lean; what the numbers of a step's tree are. No condition.
-/
namespace Go.Proofs.Ytigakendeghoaaa.Step
open Go Ex Mem See
open chartPlaces (Ok)
/-- a task -/
structure TaskP where
  job : Int := 0
  cpu : Int := 0
  pc : Int := 0
  end_ : Int := 0
  want : Int := 0
  slab : Int := 0
  obj : Int := 0
  h : Nat := 0
  t : Nat := 0
  f : Nat := 0
  k : Nat := 0
  n : Nat := 0
  last : Int := 0
  many : Int := 0
  dst : Int := 0
  back : Int := 0
  for_ : Int := 0
  deriving DecidableEq
def TaskP.v (t : TaskP) : Value := .agg #[.int .i64 t.job, .int .i64 t.cpu, .int .i64 t.pc, .int .i64 t.end_, .int .i64 t.want, .int .i64 t.slab, .int .i64 t.obj, .int .u64 (t.h : Int), .int .u64 (t.t : Int), .int .u64 (t.f : Int), .int .u64 (t.k : Int), .int .u64 (t.n : Int), .int .i64 t.last, .int .i64 t.many, .int .i64 t.dst, .int .i64 t.back, .int .i64 t.for_]
/-- its words are words -/
structure TaskP.W (x : TaskP) : Prop where
  h : x.h < 18446744073709551616
  t : x.t < 18446744073709551616
  f : x.f < 18446744073709551616
  k : x.k < 18446744073709551616
  n : x.n < 18446744073709551616
def TaskP.brk (t : TaskP) : TaskP := { t with end_ := 3 }
/-- the numbers of a tree: the task's, the chart's, the memory's length, the word that is read, others -/
def sg (t : TaskP) (c : Ch) (d e : Int) (N x : Nat) (r : List Int) : Nat → Int := fun i =>
  [t.job, t.cpu, t.pc, t.end_, t.want, t.slab, t.obj, (t.h : Int), (t.t : Int), (t.f : Int), (t.k : Int), (t.n : Int), t.last, t.many, t.dst, t.back, t.for_, 0, 0, 0, (c.C : Int), (c.S : Int), (c.O : Int), d, e, (c.key : Int), 0, 0, 0, 0, (N : Int), (x : Int),
    r.getD 0 0, r.getD 1 0, r.getD 2 0, r.getD 3 0, r.getD 4 0, r.getD 5 0, r.getD 6 0, r.getD 7 0, r.getD 8 0, r.getD 9 0, r.getD 10 0, r.getD 11 0, r.getD 12 0, r.getD 13 0, r.getD 14 0, r.getD 15 0, r.getD 16 0, r.getD 17 0, r.getD 18 0, r.getD 19 0].getD i 0
section
variable {t : TaskP} {c : Ch} {d e : Int} {N x key : Nat} {r : List Int} {g : List Nat} {i s o : Int}
theorem factsC_ok (hc : COk c d e) (hN : N ≠ 0) : ∀ f ∈ factsC, f.1.ev (sg t c d e N x r) = f.2 := by
  have h := hc.ok
  unfold Ok at h
  have e20 : sg t c d e N x r 20 = c.C := rfl
  have e21 : sg t c d e N x r 21 = c.S := rfl
  have e22 : sg t c d e N x r 22 = c.O := rfl
  have e23 : sg t c d e N x r 23 = d := rfl
  have e24 : sg t c d e N x r 24 = e := rfl
  have e30 : sg t c d e N x r 30 = N := rfl
  intro f hf
  simp only [factsC, List.mem_cons, List.not_mem_nil, or_false] at hf
  rcases hf with rfl | rfl | rfl | rfl | rfl | rfl | rfl | rfl | rfl | rfl | rfl <;> simp only [Cnd.ev, SE.ev, v, l, e20, e21, e22, e23, e24, e30, decide_eq_false_iff_not, beq_eq_false_iff_ne] <;> omega
/-- places, as numbers -/
theorem wrap_id {n : Int} (h : -9223372036854775808 ≤ n ∧ n ≤ 9223372036854775807) : IntKind.i64.wrap n = n := Apart.wrap_id h
def cpuOk (c : Ch) (i : Int) : Prop := 0 ≤ i ∧ i < c.C
instance (c : Ch) (i : Int) : Decidable (cpuOk c i) := inferInstanceAs (Decidable (0 ≤ i ∧ i < c.C))
def slabOk (c : Ch) (i : Int) : Prop := 0 ≤ i ∧ i < c.S
instance (c : Ch) (i : Int) : Decidable (slabOk c i) := inferInstanceAs (Decidable (0 ≤ i ∧ i < c.S))
def linkOk (c : Ch) (s o : Int) : Prop := (0 ≤ s ∧ s < c.S) ∧ (0 ≤ o ∧ o < c.O)
instance (c : Ch) (s o : Int) : Decidable (linkOk c s o) := inferInstanceAs (Decidable ((0 ≤ s ∧ s < c.S) ∧ (0 ≤ o ∧ o < c.O)))
/-- where a processor's head is, its part, a slab's first, its next, an object's link -/
def headN (i : Int) : Nat := 4 * i.toNat
def partN (i : Int) : Nat := 4 * i.toNat + 2
def firstN (c : Ch) (s : Int) : Nat := 4 * c.C + 4 + 4 * s.toNat
def nextN (c : Ch) (s : Int) : Nat := 4 * c.C + 4 + 4 * s.toNat + 2
def linkN (c : Ch) (s o : Int) : Nat := 4 * c.C + 4 + 4 * c.S + s.toNat * c.O + o.toNat
theorem head_lt (h : cpuOk c i) : headN i + 3 < c.words := by
  unfold cpuOk at h
  unfold headN Ch.words
  omega
theorem first_lt (h : slabOk c s) : firstN c s + 3 < c.words := by
  unfold slabOk at h
  unfold firstN Ch.words
  omega
theorem link_lt (h : linkOk c s o) : linkN c s o < c.words := by
  unfold linkOk at h
  unfold linkN Ch.words
  have h1 : s.toNat * c.O + c.O ≤ c.S * c.O := by
    have := Nat.mul_le_mul_right c.O (show s.toNat + 1 ≤ c.S by omega)
    rwa [Nat.add_mul, Nat.one_mul] at this
  omega
theorem headE_ev (hc : COk c d e) (h : cpuOk c t.cpu) : headE.ev (sg t c d e N x r) = (headN t.cpu : Nat) := by
  have h1 := hc.nums
  unfold cpuOk at h
  have e1 : sg t c d e N x r 1 = t.cpu := rfl
  simp only [headE, mul, v, l, SE.ev, e1]
  rw [wrap_id (by omega)]
  unfold headN
  omega
theorem head1_ev (hc : COk c d e) (h : cpuOk c t.cpu) : (add headE (l 1)).ev (sg t c d e N x r) = (headN t.cpu + 1 : Nat) := by
  have h0 := headE_ev (N := N) (x := x) (r := r) hc h
  have h1 := hc.nums
  unfold cpuOk at h
  simp only [add, l, SE.ev, h0]
  unfold headN
  rw [wrap_id (by omega)]
  omega
theorem linkE_ev (hc : COk c d e) {a b : Nat} (h : linkOk c (sg t c d e N x r a) (sg t c d e N x r b)) : (linkE (v a) (v b)).ev (sg t c d e N x r) = (linkN c (sg t c d e N x r a) (sg t c d e N x r b) : Nat) := by
  have h1 := hc.nums
  obtain ⟨s, hs⟩ : ∃ s, sg t c d e N x r a = s := ⟨_, rfl⟩
  obtain ⟨o, ho⟩ : ∃ o, sg t c d e N x r b = o := ⟨_, rfl⟩
  rw [hs, ho] at h ⊢
  unfold linkOk at h
  obtain ⟨s, rfl⟩ : ∃ n : Nat, s = n := ⟨s.toNat, by omega⟩
  obtain ⟨o, rfl⟩ : ∃ n : Nat, o = n := ⟨o.toNat, by omega⟩
  have e20 : sg t c d e N x r 20 = c.C := rfl
  have e21 : sg t c d e N x r 21 = c.S := rfl
  have e22 : sg t c d e N x r 22 = c.O := rfl
  simp only [linkE, links, slabs, base, add, mul, v, l, SE.ev, e20, e21, e22, hs, ho]
  have hm : s * c.O ≤ 32 * 16 := Nat.mul_le_mul (by omega) (by omega)
  have hmi : (s : Int) * (c.O : Int) = ((s * c.O : Nat) : Int) := by rw [Int.natCast_mul]
  rw [hmi]
  rw [wrap_id (n := 4 * (c.C : Int)) (by omega), wrap_id (n := 4 * (c.C : Int) + 4) (by omega), wrap_id (n := 4 * (c.S : Int)) (by omega), wrap_id (n := 4 * (c.C : Int) + 4 + 4 * (c.S : Int)) (by omega), wrap_id (n := ((s * c.O : Nat) : Int)) (by omega), wrap_id (n := 4 * (c.C : Int) + 4 + 4 * (c.S : Int) + ((s * c.O : Nat) : Int)) (by omega), wrap_id (by omega)]
  unfold linkN
  simp only [Int.toNat_natCast]
  omega
/-- the key of a slab, whatever number it is -/
def keyG (key : Nat) (s : Int) : Nat := (IntKind.u64.wrap ((key : Int) + IntKind.u64.wrap (IntKind.u64.wrap s * 11400714819323198485))).toNat
theorem keyG_lt (key : Nat) (s : Int) : keyG key s < 18446744073709551616 := by
  unfold keyG
  rw [IntKind.wrap_u64]
  omega
theorem keyE_ev {a : Nat} : (keyE (v a)).ev (sg t c d e N x r) = (keyG c.key (sg t c d e N x r a) : Nat) := by
  have e25 : sg t c d e N x r 25 = c.key := rfl
  simp only [keyE, v, l, SE.ev, e25]
  unfold keyG
  rw [Int.toNat_of_nonneg]
  rw [IntKind.wrap_u64]
  omega
theorem keyG_of (s : Nat) : keyG key s = See.keyOf key s := by
  unfold keyG See.keyOf
  rw [IntKind.wrap_u64, IntKind.wrap_u64, IntKind.wrap_u64]
  omega
theorem words_le (hc : COk c d e) : c.words ≤ 4096 ∧ c.words ≠ 0 := by
  have hn := hc.nums
  unfold Ch.words
  have : c.S * c.O ≤ 32 * 16 := Nat.mul_le_mul (by omega) (by omega)
  omega
theorem cpu_of (hcs : ∀ q ∈ csCpu, q.1.ev (sg t c d e N x r) = q.2) : cpuOk c t.cpu := by
  have h1 := hcs (.lt (v 1) (l 0), false) (by simp [csCpu])
  have h2 := hcs (.lt (v 1) (v 20), true) (by simp [csCpu])
  have e1 : sg t c d e N x r 1 = t.cpu := rfl
  have e2 : sg t c d e N x r 20 = c.C := rfl
  simp only [Cnd.ev, SE.ev, v, l, e1, e2, decide_eq_true_eq, decide_eq_false_iff_not] at h1 h2
  exact ⟨by omega, h2⟩
theorem link_of {a b : Nat} (hcs : ∀ q ∈ csLink (v a) (v b), q.1.ev (sg t c d e N x r) = q.2) : linkOk c (sg t c d e N x r a) (sg t c d e N x r b) := by
  have h1 := hcs (.lt (v a) (l 0), false) (by simp [csLink])
  have h2 := hcs (.lt (v a) (v 21), true) (by simp [csLink])
  have h3 := hcs (.lt (v b) (l 0), false) (by simp [csLink])
  have h4 := hcs (.lt (v b) (v 22), true) (by simp [csLink])
  have e1 : sg t c d e N x r 21 = c.S := rfl
  have e2 : sg t c d e N x r 22 = c.O := rfl
  simp only [Cnd.ev, SE.ev, v, l, e1, e2, decide_eq_true_eq, decide_eq_false_iff_not] at h1 h2 h3 h4
  exact ⟨⟨by omega, h2⟩, ⟨by omega, h4⟩⟩
theorem at_some {g : List Nat} {i : Nat} (h : i < g.length) : g[i]? = some (at_ g i) := by
  unfold at_
  rw [List.getD_eq_getElem?_getD, List.getElem?_eq_getElem h]
  rfl
theorem at_lt {g : List Nat} (hw : W64 g) (i : Nat) : at_ g i < 18446744073709551616 := by
  unfold at_
  rw [List.getD_eq_getElem?_getD]
  cases h : g[i]? with
  | none => simp
  | some x => exact hw x (List.mem_of_getElem? h)
end
theorem KnAll.app {P : Program} {gs : List (Nat × List Int)} {σ : Nat → Int} {ω : Nat → Nat → Nat → Obj} {a b : List Kn} (h1 : KnAll P gs σ ω a) (h2 : KnAll P gs σ ω b) : KnAll P gs σ ω (a ++ b) := fun fs hfs k hk => by
  rcases List.mem_append.1 hk with hk | hk
  · exact h1 fs hfs k hk
  · exact h2 fs hfs k hk
/-- a head's three numbers -/
def headL (x : Nat) : List Int := match headOf x with
  | some (s, o) => [1, s, o]
  | none => [0, 0, 0]
/-- what a link shows: two numbers -/
def is1 (r : Option Int) : Int := if r.isSome then 1 else 0
def val1 (r : Option Int) : Int := r.getD 0
/-! questions, answered -/
section
variable {σ : Nat → Int} {c : Ch} {i j : Int} {y n : DM} {x : Value} {s : Nat}
theorem ends_node {q : Cnd} (h : EndsM σ (.node q y n) x s) : (q.ev σ = true ∧ EndsM σ y x s) ∨ (q.ev σ = false ∧ EndsM σ n x s) := h
theorem ends_cpuQ (h1 : σ 1 = i) (h2 : σ 20 = c.C) (h : EndsM σ (cpuQ y n) x s) : (cpuOk c i ∧ EndsM σ y x s) ∨ (¬ cpuOk c i ∧ EndsM σ n x s) := by
  simp only [cpuQ, EndsM, Cnd.ev, SE.ev, v, l, h1, h2, decide_eq_true_eq, decide_eq_false_iff_not, and_false, or_false] at h
  unfold cpuOk
  rcases h with ⟨h3, h4⟩ | ⟨h3, ⟨h4, h5, h6⟩ | ⟨h4, h5⟩⟩
  · exact .inr ⟨by omega, h4⟩
  · exact .inl ⟨by omega, h6⟩
  · exact .inr ⟨by omega, h5⟩
theorem bad_cpuQ (hc : c.C ≤ 8) (h2 : σ 20 = c.C) (hy : ¬ BadM σ y) (hn : ¬ BadM σ n) : ¬ BadM σ (cpuQ y n) := by
  rintro (⟨_, h⟩ | ⟨_, ⟨h1, ⟨_, h⟩ | ⟨h3, h⟩⟩ | ⟨_, h⟩⟩)
  · exact hn h
  · exact hy h
  · simp only [Cnd.ev, SE.ev, v, l, h2, decide_eq_true_eq, decide_eq_false_iff_not] at h1 h3
    omega
  · exact hn h
theorem ends_isQ {a : Nat} (h : EndsM σ (isQ a y n) x s) : (σ a = 1 ∧ EndsM σ y x s) ∨ (σ a ≠ 1 ∧ EndsM σ n x s) := by
  simp only [isQ, EndsM, Cnd.ev, SE.ev, v, l, beq_iff_eq, beq_eq_false_iff_ne] at h
  exact h
theorem ends_okQ {a : Nat} (h : EndsM σ (okQ a y n) x s) : (σ a = 0 ∧ EndsM σ y x s) ∨ (σ a ≠ 0 ∧ EndsM σ n x s) := by
  simp only [okQ, EndsM, Cnd.ev, SE.ev, v, l, beq_iff_eq, beq_eq_false_iff_ne] at h
  exact h
theorem bad_node {q : Cnd} (hy : ¬ BadM σ y) (hn : ¬ BadM σ n) : ¬ BadM σ (.node q y n) := by
  rintro (⟨_, h⟩ | ⟨_, h⟩)
  · exact hy h
  · exact hn h
theorem ends_lt {a b : SE} (h : EndsM σ (.node (.lt a b) y n) x s) : (a.ev σ < b.ev σ ∧ EndsM σ y x s) ∨ (b.ev σ ≤ a.ev σ ∧ EndsM σ n x s) := by
  simp only [EndsM, Cnd.ev, decide_eq_true_eq, decide_eq_false_iff_not] at h
  rcases h with h | ⟨h1, h2⟩
  · exact .inl h
  · exact .inr ⟨by omega, h2⟩
theorem ends_eq {a b : SE} (h : EndsM σ (.node (.eq a b) y n) x s) : (a.ev σ = b.ev σ ∧ EndsM σ y x s) ∨ (a.ev σ ≠ b.ev σ ∧ EndsM σ n x s) := by
  simp only [EndsM, Cnd.ev, beq_iff_eq, beq_eq_false_iff_ne] at h
  exact h
theorem ends_linkQ {a b : Nat} (h1 : σ a = i) (h2 : σ b = j) (h3 : σ 21 = c.S) (h4 : σ 22 = c.O) (h : EndsM σ (linkQ (v a) (v b) y n) x s) : (linkOk c i j ∧ EndsM σ y x s) ∨ (¬ linkOk c i j ∧ EndsM σ n x s) := by
  simp only [linkQ, EndsM, Cnd.ev, SE.ev, v, l, h1, h2, h3, h4, decide_eq_true_eq, decide_eq_false_iff_not] at h
  unfold linkOk
  rcases h with ⟨h3, h4⟩ | ⟨h3, ⟨h4, ⟨h5, h6⟩ | ⟨h5, ⟨h6, h7⟩ | ⟨h6, h7⟩⟩⟩ | ⟨h4, h5⟩⟩
  · exact .inr ⟨by omega, h4⟩
  · exact .inr ⟨by omega, h6⟩
  · exact .inl ⟨by omega, h7⟩
  · exact .inr ⟨by omega, h7⟩
  · exact .inr ⟨by omega, h5⟩
theorem bad_linkQ {a b : SE} (hy : ¬ BadM σ y) (hn : ¬ BadM σ n) : ¬ BadM σ (linkQ a b y n) := bad_node hn (bad_node (bad_node hn (bad_node hy hn)) hn)
theorem bad_onT {pc : Int} {u : List (Nat × AV)} {q : Nat} : ¬ BadM σ (onT pc u q) := fun h => h
end
/-- what a step answers, and leaves -/
def StepRes (W : World) (m : List (Nat × Obj)) (b0 b1 N k : Nat) (t : TaskP) (g : List Nat) (e : Ending) (w' : World) : Prop :=
  ∃ q, q ≤ 1 ∧ e = .returned (.tuple #[t.v, .int .i64 0]) ∧ Own W (mB b0 b1 N (k + q) :: wB b1 g :: m) w'
/-- a task that runs, at a place -/
structure AtPc (t : TaskP) (pc : Int) : Prop where
  pc : t.pc = pc
  end_ : t.end_ = 0
  want : t.want = 0
end Go.Proofs.Ytigakendeghoaaa.Step

/-
  fast.Step, place by place: trees of questions, run by the kernel. No condition.
-/
namespace Go.Proofs.Ytigakendeghoaaa.Fast
open Go Ex Step
noncomputable section
def argsT (pc e w : AV) : List AV := [chartA, .agg (taskA pc e w)]
def runT (kn : List Kn) (pc : Int) (d : DM) : Bool := treeM Try.prog [] [] kn 60 48 (.ptr 0 0 :: argsT (nI pc) (nI 0) (nI 0)) 0 d factsC
/-! 0, 10 -/
def knTurn : List Kn := [kLen 76, kLoad 124 (add headE (l 1)) 31 csCpu, kLoadN 124]
def dTurn (pc : Int) : DM := cpuQ (onT pc [(8, sU 31), (2, nI (pc + 1))] 1) (brk pc 0)
theorem run0 : runT knTurn 0 (dTurn 0) = true := by kernel_rfl
theorem run10 : runT knTurn 10 (dTurn 10) = true := by kernel_rfl
/-! 1, 11 -/
def knHead : List Kn := [kLen 76, kLoad 124 headE 31 csCpu, kLoadN 124, kHeadOfY 80, kHeadOfN 80, kHeadOf0 80]
def dLook : DM :=
  let b := brk 1 1
  let x := fun pc => onT 1 [(7, sU 31), (5, sI 33), (6, sI 34), (2, nI pc)] 1
  cpuQ (isQ 32 (.node (.lt (v 33) (l 0)) (.node (.lt (v 33) (v 21)) (.node (.lt (v 34) (v 22)) (x 30) b) .bad) (.node (.lt (v 33) (v 21)) (.node (.lt (v 34) (v 22)) (.node (.lt (v 34) (l 0)) (x 20) (x 2)) (.node (.lt (v 34) (l 0)) b b)) (.node (.lt (v 34) (l 0)) b b))) b) (brk 1 0)
theorem run1 : runT knHead 1 dLook = true := by kernel_rfl
def dMine : DM :=
  let b := brk 11 1
  let e := fun (y n : DM) => DM.node (.eq (v 33) (v 5)) y n
  let e1 := fun (y n : DM) => DM.node (.eq (l (-1)) (v 5)) y n
  cpuQ (isQ 32 (.node (.lt (v 33) (v 21)) (.node (.lt (v 34) (v 22)) (e (onT 11 [(7, sU 31), (12, sI 34), (2, nI 12)] 1) (onT 11 [(7, sU 31), (2, nI 50)] 1)) (e b b)) (e b b)) (e1 b b)) (e1 (brk 11 0) (brk 11 0))
theorem run11 : runT knHead 11 dMine = true := by kernel_rfl
/-! 2 -/
def showXs (w : AV) : List AV := [w, .sym .u64 (keyE (v 5)), sI 6]
def knNext : List Kn := [kLen 76, kLoad 124 (linkE (v 5) (v 6)) 31 (csLink (v 5) (v 6)), kLoadN 124, kShowY 114 35 (showXs (sU 31)), kShowN 114 35 (showXs (sU 31)), kShowY 114 45 (showXs (nU 0)), kShowN 114 45 (showXs (nU 0))]
def dNext : DM :=
  let b := brk 2 0
  let again := onT 2 [(2, nI 0)] 1
  linkQ (v 5) (v 6) (isQ 35 (.node (.lt (v 36) (v 22)) (onT 2 [(12, sI 36), (2, nI 3)] 1) again) again) (isQ 45 (.node (.lt (v 46) (v 22)) b b) b)
theorem run2 : runT knNext 2 dNext = true := by kernel_rfl
/-! 3, 13 -/
def swapXs : List AV := [sU 7, sU 8, sU 38, .sym .u64 (.ubin .add (v 8) (l 1))]
def knSwap (o : Nat) : List Kn := [kLen 76, kHeadY 73 [sI 5, sI o], kHeadN 73 [sI 5, sI o], kCas2Y 129 headE swapXs csCpu, kCas2F 129 headE swapXs csCpu, kCas2N 129 swapXs]
def dSwap (pc again : Int) : DM := okQ 37 (cpuQ (isQ 41 (onT pc [(3, nI 1)] 1) (onT pc [(2, nI again)] 2)) (brk pc 0)) (brk pc 0)
theorem run3 : runT (knSwap 12) 3 (dSwap 3 0) = true := by kernel_rfl
theorem run13 : runT (knSwap 6) 13 (dSwap 13 10) = true := by kernel_rfl
/-! 12 -/
def hideXs : List AV := [sI 12, .sym .u64 (keyE (v 5)), sI 6]
def knTie : List Kn := [kLen 76, kHideY 116 hideXs, kHideN 116 hideXs, kStore 49 (linkE (v 5) (v 6)) (sU 40) (csLink (v 5) (v 6)), kStoreN 49 (sU 40)]
def dTie : DM := okQ 39 (linkQ (v 5) (v 6) (onT 12 [(2, nI 13)] 1) (brk 12 0)) (brk 12 0)
theorem run12 : runT knTie 12 dTie = true := by kernel_rfl
end
end Go.Proofs.Ytigakendeghoaaa.Fast

/-
  fast.Step in plain Lean, and that it is that. No condition.
-/
namespace Go.Proofs.Ytigakendeghoaaa.Fast
open Go Ex Mem See Step
open chartPlaces (Ok)
/-! what each place does: the task behind it, the words behind it -/
def pTurn (c : Ch) (g : List Nat) (t : TaskP) : TaskP := if cpuOk c t.cpu then { t with t := at_ g (headN t.cpu + 1), pc := t.pc + 1 } else t.brk
/-- a head, if the chart has that -/
def headC (c : Ch) (x : Nat) : Option (Int × Int) := match headOf x with
  | some (s, o) => if s < c.S ∧ o < c.O then some (s, o) else none
  | none => none
def pLook (c : Ch) (g : List Nat) (t : TaskP) : TaskP := if cpuOk c t.cpu then match headC c (at_ g (headN t.cpu)) with
    | some (s, o) => { t with h := at_ g (headN t.cpu), slab := s, obj := o, pc := if s < 0 then 30 else if o < 0 then 20 else 2 }
    | none => t.brk
  else t.brk
def pMine (c : Ch) (g : List Nat) (t : TaskP) : TaskP := if cpuOk c t.cpu then match headC c (at_ g (headN t.cpu)) with
    | some (s, o) => if s = t.slab then { t with h := at_ g (headN t.cpu), last := o, pc := 12 } else { t with h := at_ g (headN t.cpu), pc := 50 }
    | none => t.brk
  else t.brk
def pNext (c : Ch) (g : List Nat) (t : TaskP) : TaskP := if linkOk c t.slab t.obj then match showOf (at_ g (linkN c t.slab t.obj)) (keyG c.key t.slab) t.obj.toNat with
    | some n => if n < c.O then { t with last := n, pc := 3 } else { t with pc := 0 }
    | none => { t with pc := 0 }
  else t.brk
/-- head and turn as they were read? -/
def isHead (g : List Nat) (t : TaskP) : Prop := at_ g (headN t.cpu) = t.h ∧ at_ g (headN t.cpu + 1) = t.t
instance (g : List Nat) (t : TaskP) : Decidable (isHead g t) := inferInstanceAs (Decidable (_ ∧ _))
def up64 (n : Nat) : Nat := (n + 1) % 18446744073709551616
def pSwap (o : TaskP → Int) (again : Int) (c : Ch) (g : List Nat) (t : TaskP) : TaskP × List Nat := if (headR t.slab (o t)).1 = 0 ∧ cpuOk c t.cpu then
    if isHead g t then ({ t with end_ := 1 }, (g.set (headN t.cpu) (headR t.slab (o t)).2).set (headN t.cpu + 1) (up64 t.t)) else ({ t with pc := again }, g)
  else (t.brk, g)
def pTie (c : Ch) (g : List Nat) (t : TaskP) : TaskP × List Nat := if (hideR t.last (keyG c.key t.slab) t.obj).1 = 0 ∧ linkOk c t.slab t.obj then
    ({ t with pc := 13 }, g.set (linkN c t.slab t.obj) (hideR t.last (keyG c.key t.slab) t.obj).2)
  else (t.brk, g)
/-- .. of a place of the table -/
def stepP (c : Ch) (g : List Nat) (t : TaskP) : TaskP × List Nat :=
  if t.pc = 0 ∨ t.pc = 10 then (pTurn c g t, g)
  else if t.pc = 1 then (pLook c g t, g)
  else if t.pc = 2 then (pNext c g t, g)
  else if t.pc = 3 then pSwap (·.last) 0 c g t
  else if t.pc = 11 then (pMine c g t, g)
  else if t.pc = 12 then pTie c g t
  else pSwap (·.obj) 10 c g t
section
variable {W w : World} {m : List (Nat × Obj)} {b0 b1 N k : Nat} {g : List Nat} {c : Ch} {d e : Int} {t : TaskP}
/-- from a tree's run to a step -/
theorem step_run {x : Nat} {r : List Int} {g1 g2 : List Nat} {kn : List Kn} {pc : Int} {dm : DM} {t' : TaskP} {g' : List Nat} (hO : Own W (mB b0 b1 N k :: wB b1 g :: m) w) (hc : COk c d e) (hNw : N = c.words) (ht : AtPc t pc)
    (hkn : KnAll Try.prog [] (sg t c d e N x r) (ωM N k g g1 g2) kn) (hrun : runT kn pc dm = true) (hbad : ¬ BadM (sg t c d e N x r) dm)
    (hends : ∀ y s, EndsM (sg t c d e N x r) dm y s → y = .tuple #[t'.v, .int .i64 0] ∧ s ≤ 2 ∧ (s = 0 → g' = g) ∧ (s = 1 → g' = g1) ∧ (s = 2 → g' = g2)) :
    Calls Try.prog 48 #[.pointer (some ⟨b0, 0, none⟩), cV c d e, t.v] w (StepRes W m b0 b1 N k t' g') := by
  have hN0 : N ≠ 0 := by rw [hNw]; exact (words_le hc).2
  have := treeM_own mixed ov_nil hkn (xs := argsT (nI pc) (nI 0) (nI 0)) rfl dm factsC (factsC_ok hc hN0) hrun hbad hO
  have hargs : Ex.valsOf (sg t c d e N x r) (argsT (nI pc) (nI 0) (nI 0)) = [cV c d e, t.v] := by
    obtain ⟨h1, h2, h3⟩ := ht
    have h4 : ({ t with pc := pc, end_ := 0, want := 0 } : TaskP) = t := by cases t; simp_all
    rw [← h4]
    rfl
  rw [hargs] at this
  refine this.mono ?_
  rintro r w' ⟨y, s, rfl, hx, h2⟩
  obtain ⟨rfl, hs, h3, h4, h5⟩ := hends y s hx
  match s, hs with
  | 0, _ => rw [h3 rfl]; exact ⟨0, by omega, rfl, h2⟩
  | 1, _ => rw [h4 rfl]; exact ⟨1, by omega, rfl, h2⟩
  | 2, _ => rw [h5 rfl]; exact ⟨1, by omega, rfl, h2⟩
theorem turn_spec {pc : Int} (hO : Own W (mB b0 b1 N k :: wB b1 g :: m) w) (hc : COk c d e) (hN : g.length = N) (hNw : N = c.words) (hk : k ≤ 1000000000) (ht : AtPc t pc) (hp : pc = 0 ∨ pc = 10) :
    Calls Try.prog 48 #[.pointer (some ⟨b0, 0, none⟩), cV c d e, t.v] w (StepRes W m b0 b1 N k (pTurn c g t) g) := by
  have hN2 : N ≤ 4096 := by rw [hNw]; exact (words_le hc).1
  have hn := hc.nums
  refine step_run (x := at_ g (headN t.cpu + 1)) (r := []) (g1 := g) (g2 := g) (kn := knTurn) (dm := dTurn pc) hO hc hNw ht ?_ (by rcases hp with rfl | rfl; exact run0; exact run10) (bad_cpuQ (c := c) (by omega) rfl bad_onT bad_onT) fun y s hx => ?_
  · unfold knTurn
    exact KnAll.cons (kn_len rfl) (KnAll.cons (kn_load hN hN2 hk rfl fun hcs => ⟨_, _, head1_ev hc (cpu_of hcs), at_some (by have := head_lt (cpu_of hcs); omega), rfl⟩) (KnAll.cons (kn_loadN hN2 hk) knAll_nil))
  obtain ⟨job, cpu, pc', en, wa, slab, obj, h, tt, f, kk, n, last, many, dst, back, for_⟩ := t
  obtain ⟨h1, h2, h3⟩ := ht
  simp only at h1 h2 h3
  subst h1 h2 h3
  rcases ends_cpuQ (c := c) (i := cpu) rfl rfl hx with ⟨hcpu, rfl, rfl⟩ | ⟨hcpu, rfl, rfl⟩
  · rw [pTurn, if_pos hcpu]
    exact ⟨rfl, by omega, by simp, by simp, by simp⟩
  · rw [pTurn, if_neg hcpu]
    exact ⟨rfl, by omega, by simp, by simp, by simp⟩
theorem knHead_ok {r : List Int} {g1 g2 : List Nat} (hc : COk c d e) (hN : g.length = N) (hNw : N = c.words) (hw : W64 g) (hk : k ≤ 1000000000) (hg : g1 = g) (hr : r = headL (at_ g (headN t.cpu))) :
    KnAll Try.prog [] (sg t c d e N (at_ g (headN t.cpu)) r) (ωM N k g g1 g2) knHead := by
  have hN2 : N ≤ 4096 := by rw [hNw]; exact (words_le hc).1
  subst hr
  have h1 : KnAll Try.prog [] (sg t c d e N (at_ g (headN t.cpu)) (headL (at_ g (headN t.cpu)))) (ωM N k g g1 g2) [kLen _, kLoad _ headE 31 csCpu, kLoadN _] :=
    KnAll.cons (kn_len rfl) (KnAll.cons (kn_load hN hN2 hk hg fun hcs => ⟨_, _, headE_ev hc (cpu_of hcs), at_some (by have := head_lt (cpu_of hcs); omega), rfl⟩) (KnAll.cons (kn_loadN hN2 hk) knAll_nil))
  have h2 := KnAll.app h1 (kn_headOf (σ := sg t c d e N (at_ g (headN t.cpu)) (headL (at_ g (headN t.cpu)))) (ω := ωM N k g g1 g2) (at_ g (headN t.cpu)) (at_lt hw _) rfl (by
    show (headL _).getD 0 0 = _
    unfold headL
    cases headOf (at_ g (headN t.cpu)) with
    | none => rfl
    | some p => rfl) (fun s o hs => by
    show (headL _).getD 1 0 = s ∧ (headL _).getD 2 0 = o
    unfold headL
    rw [hs]
    exact ⟨rfl, rfl⟩))
  exact h2
theorem look_spec (hO : Own W (mB b0 b1 N k :: wB b1 g :: m) w) (hc : COk c d e) (hN : g.length = N) (hNw : N = c.words) (hw : W64 g) (hk : k ≤ 1000000000) (ht : AtPc t 1) :
    Calls Try.prog 48 #[.pointer (some ⟨b0, 0, none⟩), cV c d e, t.v] w (StepRes W m b0 b1 N k (pLook c g t) g) := by
  have hn := hc.nums
  refine step_run (x := at_ g (headN t.cpu)) (r := headL (at_ g (headN t.cpu))) (g1 := g) (g2 := g) (kn := knHead) (dm := dLook) hO hc hNw ht (knHead_ok hc hN hNw hw hk rfl rfl) run1 ?_ fun y s hx => ?_
  · refine bad_cpuQ (c := c) (by omega) rfl (bad_node ?_ bad_onT) bad_onT
    rintro (⟨h1, ⟨_, ⟨_, h⟩ | ⟨_, h⟩⟩ | ⟨h2, _⟩⟩ | ⟨_, ⟨_, ⟨_, ⟨_, h⟩ | ⟨_, h⟩⟩ | ⟨_, ⟨_, h⟩ | ⟨_, h⟩⟩⟩ | ⟨_, ⟨_, h⟩ | ⟨_, h⟩⟩⟩)
    all_goals first
      | exact h
      | (simp only [Cnd.ev, SE.ev, v, l, decide_eq_true_eq, decide_eq_false_iff_not] at h1 h2
         rw [show sg t c d e N (at_ g (headN t.cpu)) (headL (at_ g (headN t.cpu))) 21 = c.S from rfl] at h2
         omega)
  obtain ⟨job, cpu, pc', en, wa, slab, obj, h, tt, f, kk, n, last, many, dst, back, for_⟩ := t
  obtain ⟨h1, h2, h3⟩ := ht
  simp only at h1 h2 h3
  subst h1 h2 h3
  generalize hσ : sg _ c d e N _ _ = σ at hx
  have e1 : σ 1 = cpu := by rw [← hσ]; rfl
  have e5 : σ 5 = slab := by rw [← hσ]; rfl
  have e6 : σ 6 = obj := by rw [← hσ]; rfl
  have e20 : σ 20 = c.C := by rw [← hσ]; rfl
  have e21 : σ 21 = c.S := by rw [← hσ]; rfl
  have e22 : σ 22 = c.O := by rw [← hσ]; rfl
  rcases ends_cpuQ (c := c) e1 e20 hx with ⟨hcpu, hx⟩ | ⟨hcpu, rfl, rfl⟩
  · rw [pLook, if_pos hcpu]
    simp only
    unfold headC
    cases hh : headOf (at_ g (headN cpu)) with
    | none =>
      have e32 : σ 32 = 0 := by rw [← hσ]; show (headL _).getD 0 0 = _; simp only [headL, hh]; rfl
      rcases ends_isQ hx with ⟨his, hx⟩ | ⟨his, hx⟩
      · rw [e32] at his; cases his
      · obtain ⟨rfl, rfl⟩ := hx; simp only; exact ⟨by subst hσ; rfl, by omega, by simp, by simp, by simp⟩
    | some p =>
      obtain ⟨sl, ob⟩ := p
      have e32 : σ 32 = 1 := by rw [← hσ]; show (headL _).getD 0 0 = _; simp only [headL, hh]; rfl
      have e33 : σ 33 = sl := by rw [← hσ]; show (headL _).getD 1 0 = _; simp only [headL, hh]; rfl
      have e34 : σ 34 = ob := by rw [← hσ]; show (headL _).getD 2 0 = _; simp only [headL, hh]; rfl
      rcases ends_isQ hx with ⟨his, hx⟩ | ⟨his, hx⟩
      · simp only [EndsM, Cnd.ev, SE.ev, v, l, e33, e34, e21, e22, e5, decide_eq_true_eq, decide_eq_false_iff_not, beq_iff_eq, beq_eq_false_iff_ne] at hx
        by_cases a0 : sl < 0 <;> by_cases a1 : sl < c.S <;> by_cases a2 : ob < c.O <;> by_cases a3 : ob < 0
        all_goals simp [a0, a1, a2, a3] at hx
        all_goals first
          | (exfalso; omega)
          | (obtain ⟨rfl, rfl⟩ := hx; refine ⟨?_, by omega, by simp, by simp, by simp⟩; simp only [a0, a1, a2, a3, and_self, and_true, true_and, and_false, false_and, if_true, if_false]; subst hσ; simp only [headL, hh]; rfl)
      · exact absurd e32 his
  · rw [pLook, if_neg hcpu]
    exact ⟨by subst hσ; rfl, by omega, by simp, by simp, by simp⟩
theorem mine_spec (hO : Own W (mB b0 b1 N k :: wB b1 g :: m) w) (hc : COk c d e) (hN : g.length = N) (hNw : N = c.words) (hw : W64 g) (hk : k ≤ 1000000000) (ht : AtPc t 11) :
    Calls Try.prog 48 #[.pointer (some ⟨b0, 0, none⟩), cV c d e, t.v] w (StepRes W m b0 b1 N k (pMine c g t) g) := by
  have hn := hc.nums
  refine step_run (x := at_ g (headN t.cpu)) (r := headL (at_ g (headN t.cpu))) (g1 := g) (g2 := g) (kn := knHead) (dm := dMine) hO hc hNw ht (knHead_ok hc hN hNw hw hk rfl rfl) run11
    (bad_cpuQ (c := c) (by omega) rfl (bad_node (bad_node (bad_node (bad_node bad_onT bad_onT) (bad_node bad_onT bad_onT)) (bad_node bad_onT bad_onT)) (bad_node bad_onT bad_onT)) (bad_node bad_onT bad_onT)) fun y s hx => ?_
  obtain ⟨job, cpu, pc', en, wa, slab, obj, h, tt, f, kk, n, last, many, dst, back, for_⟩ := t
  obtain ⟨h1, h2, h3⟩ := ht
  simp only at h1 h2 h3
  subst h1 h2 h3
  generalize hσ : sg _ c d e N _ _ = σ at hx
  have e1 : σ 1 = cpu := by rw [← hσ]; rfl
  have e5 : σ 5 = slab := by rw [← hσ]; rfl
  have e6 : σ 6 = obj := by rw [← hσ]; rfl
  have e20 : σ 20 = c.C := by rw [← hσ]; rfl
  have e21 : σ 21 = c.S := by rw [← hσ]; rfl
  have e22 : σ 22 = c.O := by rw [← hσ]; rfl
  rcases ends_cpuQ (c := c) e1 e20 hx with ⟨hcpu, hx⟩ | ⟨hcpu, hx⟩
  · rw [pMine, if_pos hcpu]
    simp only
    unfold headC
    cases hh : headOf (at_ g (headN cpu)) with
    | none =>
      have e32 : σ 32 = 0 := by rw [← hσ]; show (headL _).getD 0 0 = _; simp only [headL, hh]; rfl
      rcases ends_isQ hx with ⟨his, hx⟩ | ⟨his, hx⟩
      · rw [e32] at his; cases his
      · rcases ends_eq hx with ⟨-, rfl, rfl⟩ | ⟨-, rfl, rfl⟩ <;> (simp only; exact ⟨by subst hσ; rfl, by omega, by simp, by simp, by simp⟩)
    | some p =>
      obtain ⟨sl, ob⟩ := p
      have e32 : σ 32 = 1 := by rw [← hσ]; show (headL _).getD 0 0 = _; simp only [headL, hh]; rfl
      have e33 : σ 33 = sl := by rw [← hσ]; show (headL _).getD 1 0 = _; simp only [headL, hh]; rfl
      have e34 : σ 34 = ob := by rw [← hσ]; show (headL _).getD 2 0 = _; simp only [headL, hh]; rfl
      rcases ends_isQ hx with ⟨his, hx⟩ | ⟨his, hx⟩
      · rcases ends_lt hx with ⟨q1, hx⟩ | ⟨q1, hx⟩ <;> simp only [SE.ev, v, e33, e21] at q1
        · rcases ends_lt hx with ⟨q2, hx⟩ | ⟨q2, hx⟩ <;> simp only [SE.ev, v, e34, e22] at q2
          · simp only [if_pos (And.intro q1 q2)]
            rcases ends_eq hx with ⟨q3, hx⟩ | ⟨q3, hx⟩ <;> simp only [SE.ev, v, e33, e5] at q3 <;> obtain ⟨rfl, rfl⟩ := hx
            · simp only [if_pos q3]
              exact ⟨by subst hσ; simp only [headL, hh]; rfl, by omega, by simp, by simp, by simp⟩
            · simp only [if_neg q3]
              exact ⟨by subst hσ; simp only [headL, hh]; rfl, by omega, by simp, by simp, by simp⟩
          · have hq : ¬ (sl < c.S ∧ ob < c.O) := by omega
            simp only [if_neg hq]
            rcases ends_eq hx with ⟨q3, rfl, rfl⟩ | ⟨q3, rfl, rfl⟩ <;> exact ⟨by subst hσ; simp only [headL, hh]; rfl, by omega, by simp, by simp, by simp⟩
        · have hq : ¬ (sl < c.S ∧ ob < c.O) := by omega
          simp only [if_neg hq]
          rcases ends_eq hx with ⟨q3, rfl, rfl⟩ | ⟨q3, rfl, rfl⟩ <;> exact ⟨by subst hσ; simp only [headL, hh]; rfl, by omega, by simp, by simp, by simp⟩
      · exact absurd e32 his
  · rw [pMine, if_neg hcpu]
    rcases ends_eq hx with ⟨-, rfl, rfl⟩ | ⟨-, rfl, rfl⟩ <;> exact ⟨by subst hσ; rfl, by omega, by simp, by simp, by simp⟩
theorem showG_in {x key : Nat} {n : Int} (h : 0 ≤ n ∧ n < 16) : showG x key n = showOf x key n.toNat := by unfold showG; rw [if_pos h]
theorem next_spec (hO : Own W (mB b0 b1 N k :: wB b1 g :: m) w) (hc : COk c d e) (hN : g.length = N) (hNw : N = c.words) (hw : W64 g) (hk : k ≤ 1000000000) (ht : AtPc t 2) :
    Calls Try.prog 48 #[.pointer (some ⟨b0, 0, none⟩), cV c d e, t.v] w (StepRes W m b0 b1 N k (pNext c g t) g) := by
  have hN2 : N ≤ 4096 := by rw [hNw]; exact (words_le hc).1
  have hn := hc.nums
  refine step_run (x := at_ g (linkN c t.slab t.obj)) (r := [0, 0, 0, is1 (showG (at_ g (linkN c t.slab t.obj)) (keyG c.key t.slab) t.obj), val1 (showG (at_ g (linkN c t.slab t.obj)) (keyG c.key t.slab) t.obj), 0, 0, 0, 0, 0, 0, 0, 0, is1 (showG 0 (keyG c.key t.slab) t.obj), val1 (showG 0 (keyG c.key t.slab) t.obj)])
    (g1 := g) (g2 := g) (kn := knNext) (dm := dNext) hO hc hNw ht ?_ run2 (bad_linkQ (bad_node (bad_node bad_onT bad_onT) bad_onT) (bad_node (bad_node bad_onT bad_onT) bad_onT)) fun y s hx => ?_
  · refine KnAll.cons (kn_len rfl) (KnAll.cons (kn_load hN hN2 hk rfl fun hcs => ⟨_, _, linkE_ev hc (link_of hcs), at_some (by have := link_lt (link_of hcs); omega), rfl⟩) (KnAll.cons (kn_loadN hN2 hk) ?_))
    exact KnAll.app (kn_show (wv := sU 31) (e := keyE (v 5)) (b := 6) (i := 35) rfl (at_lt hw _) (keyG_lt _ _) rfl keyE_ev rfl (fun s hs => by show val1 _ = s; exact congrArg (fun o => o.getD 0) hs))
      (kn_show (wv := nU 0) (e := keyE (v 5)) (b := 6) (i := 45) (x := 0) rfl (by decide) (keyG_lt _ _) rfl keyE_ev rfl (fun s hs => by show val1 _ = s; exact congrArg (fun o => o.getD 0) hs))
  obtain ⟨job, cpu, pc', en, wa, slab, obj, h, tt, f, kk, n, last, many, dst, back, for_⟩ := t
  obtain ⟨h1, h2, h3⟩ := ht
  simp only at h1 h2 h3
  subst h1 h2 h3
  generalize hσ : sg _ c d e N _ _ = σ at hx
  have e1 : σ 1 = cpu := by rw [← hσ]; rfl
  have e5 : σ 5 = slab := by rw [← hσ]; rfl
  have e6 : σ 6 = obj := by rw [← hσ]; rfl
  have e20 : σ 20 = c.C := by rw [← hσ]; rfl
  have e21 : σ 21 = c.S := by rw [← hσ]; rfl
  have e22 : σ 22 = c.O := by rw [← hσ]; rfl
  rcases ends_linkQ (c := c) e5 e6 e21 e22 hx with ⟨hl, hx⟩ | ⟨hl, hx⟩
  · rw [pNext, if_pos hl]
    have h16 : 0 ≤ obj ∧ obj < 16 := by unfold linkOk at hl; omega
    have e35 : σ 35 = is1 (showOf (at_ g (linkN c slab obj)) (keyG c.key slab) obj.toNat) := by rw [← hσ, ← showG_in h16]; rfl
    have e36 : σ 36 = val1 (showOf (at_ g (linkN c slab obj)) (keyG c.key slab) obj.toNat) := by rw [← hσ, ← showG_in h16]; rfl
    have e36' : sg { job := job, cpu := cpu, pc := 2, end_ := 0, want := 0, slab := slab, obj := obj, h := h, t := tt, f := f, k := kk, n := n, last := last, many := many, dst := dst, back := back, for_ := for_ } c d e N (at_ g (linkN c slab obj)) [0, 0, 0, is1 (showG (at_ g (linkN c slab obj)) (keyG c.key slab) obj), val1 (showG (at_ g (linkN c slab obj)) (keyG c.key slab) obj), 0, 0, 0, 0, 0, 0, 0, 0, is1 (showG 0 (keyG c.key slab) obj), val1 (showG 0 (keyG c.key slab) obj)] 36 = val1 (showOf (at_ g (linkN c slab obj)) (keyG c.key slab) obj.toNat) := by rw [← showG_in h16]; rfl
    simp only
    cases hs : showOf (at_ g (linkN c slab obj)) (keyG c.key slab) obj.toNat with
    | none =>
      rw [hs] at e35
      rcases ends_isQ hx with ⟨his, hx⟩ | ⟨his, rfl, rfl⟩
      · rw [e35] at his; cases his
      · exact ⟨by subst hσ; rfl, by omega, by simp, by simp, by simp⟩
    | some q =>
      rw [hs] at e35 e36 e36'
      rcases ends_isQ hx with ⟨his, hx⟩ | ⟨his, hx⟩
      · rcases ends_lt hx with ⟨q1, rfl, rfl⟩ | ⟨q1, rfl, rfl⟩ <;> simp only [SE.ev, v, e36, e22, val1, Option.getD_some] at q1
        · simp only [if_pos q1]
          refine ⟨?_, by omega, by simp, by simp, by simp⟩
          have e36'' : q = σ 36 := e36.symm
          rw [e36'']
          subst hσ
          rfl
        · simp only [if_neg (show ¬ q < (c.O : Int) by omega)]
          exact ⟨by subst hσ; rfl, by omega, by simp, by simp, by simp⟩
      · exact absurd e35 his
  · rw [pNext, if_neg hl]
    rcases ends_isQ hx with ⟨his, hx⟩ | ⟨his, rfl, rfl⟩
    · rcases ends_lt hx with ⟨q1, rfl, rfl⟩ | ⟨q1, rfl, rfl⟩ <;> exact ⟨by subst hσ; rfl, by omega, by simp, by simp, by simp⟩
    · exact ⟨by subst hσ; rfl, by omega, by simp, by simp, by simp⟩
theorem up64_ev (n : Nat) : IntKind.u64.wrap ((n : Int) + 1) = (up64 n : Nat) := by
  rw [IntKind.wrap_u64]
  unfold up64
  omega
theorem swap_spec (o : TaskP → Int) (oi : Nat) (pc again : Int) (ho : ∀ (t : TaskP) (x : Nat) (r : List Int), sg t c d e N x r oi = o t) (ho2 : ∀ t : TaskP, o { t with pc := pc, end_ := 0, want := 0 } = o t) (hrun : runT (knSwap oi) pc (dSwap pc again) = true)
    (hO : Own W (mB b0 b1 N k :: wB b1 g :: m) w) (hc : COk c d e) (hN : g.length = N) (hNw : N = c.words) (hk : k ≤ 1000000000) (ht : AtPc t pc) :
    Calls Try.prog 48 #[.pointer (some ⟨b0, 0, none⟩), cV c d e, t.v] w (StepRes W m b0 b1 N k (pSwap o again c g t).1 (pSwap o again c g t).2) := by
  have hN2 : N ≤ 4096 := by rw [hNw]; exact (words_le hc).1
  have hn := hc.nums
  have hcas : ∀ (x : Nat) (r : List Int), r.getD 6 0 = (headR t.slab (o t)).2 → r.getD 9 0 = (if isHead g t then 1 else 0) → (∀ q ∈ csCpu, q.1.ev (sg t c d e N x r) = q.2) → ∃ j x' y a' b' c' d' : Nat, headE.ev (sg t c d e N x r) = j ∧ g[j]? = some x' ∧ g[j + 1]? = some y ∧ (v 7).ev (sg t c d e N x r) = a' ∧ (v 8).ev (sg t c d e N x r) = b' ∧ (v 38).ev (sg t c d e N x r) = c' ∧ (SE.ubin .add (v 8) (l 1)).ev (sg t c d e N x r) = d' ∧ sg t c d e N x r 41 = (if x' = a' ∧ y = b' then 1 else 0) ∧ (x' = a' ∧ y = b' → (g.set (headN t.cpu) (headR t.slab (o t)).2).set (headN t.cpu + 1) (up64 t.t) = (g.set j c').set (j + 1) d') := by
    intro x r h6 h9 hcs
    have hcpu := cpu_of hcs
    have hlt := head_lt hcpu
    refine ⟨headN t.cpu, at_ g (headN t.cpu), at_ g (headN t.cpu + 1), t.h, t.t, (headR t.slab (o t)).2, up64 t.t, headE_ev hc hcpu, at_some (by omega), at_some (by omega), rfl, rfl, h6, up64_ev t.t, h9, fun _ => rfl⟩
  refine step_run (x := 0) (r := [0, 0, 0, 0, 0, (headR t.slab (o t)).1, (headR t.slab (o t)).2, 0, 0, if isHead g t then 1 else 0]) (g1 := (g.set (headN t.cpu) (headR t.slab (o t)).2).set (headN t.cpu + 1) (up64 t.t)) (g2 := g) (kn := knSwap oi) (dm := dSwap pc again) hO hc hNw ht ?_ hrun
    (bad_node (bad_cpuQ (c := c) (by omega) rfl (bad_node bad_onT bad_onT) bad_onT) bad_onT) fun y s hx => ?_
  · refine KnAll.cons (kn_len rfl) (KnAll.app (kn_head (a := 5) (b := oi) ?_ ?_) (KnAll.cons (kn_cas2Y (p := headE) (a := v 7) (b := v 8) (c := v 38) (d := .ubin .add (v 8) (l 1)) hN hN2 hk (hcas _ _ rfl rfl)) (KnAll.cons (kn_cas2F (p := headE) (a := v 7) (b := v 8) (c := v 38) (d := .ubin .add (v 8) (l 1)) hN hN2 hk rfl fun hcs => ?_) (KnAll.cons (kn_cas2N (a := v 7) (b := v 8) (c := v 38) (d := .ubin .add (v 8) (l 1)) hN2 hk ⟨t.h, t.t, (headR t.slab (o t)).2, up64 t.t, rfl, rfl, rfl, up64_ev t.t⟩) knAll_nil))))
    · rw [ho]; rfl
    · rw [ho]; rfl
    · obtain ⟨j, x', y, a', b', c', d', q1, q2, q3, q4, q5, q6, q7, q8, -⟩ := hcas 0 [0, 0, 0, 0, 0, (headR t.slab (o t)).1, (headR t.slab (o t)).2, 0, 0, if isHead g t then 1 else 0] rfl rfl hcs
      exact ⟨j, x', y, a', b', c', d', q1, q2, q3, q4, q5, q6, q7, q8⟩
  have ho3 := ho2 t
  unfold pSwap
  generalize hoo : o t = oo at *
  obtain ⟨job, cpu, pc', en, wa, slab, obj, h, tt, f, kk, n, last, many, dst, back, for_⟩ := t
  obtain ⟨h1, h2, h3⟩ := ht
  simp only at h1 h2 h3
  subst h1 h2 h3
  generalize hσ : sg _ c d e N _ _ = σ at hx
  have e1 : σ 1 = cpu := by rw [← hσ]; rfl
  have e20 : σ 20 = c.C := by rw [← hσ]; rfl
  have e37 : σ 37 = (headR slab oo).1 := by rw [← hσ]; rfl
  have e41 : σ 41 = if isHead g ⟨job, cpu, pc', 0, 0, slab, obj, h, tt, f, kk, n, last, many, dst, back, for_⟩ then 1 else 0 := by rw [← hσ]; rfl
  rcases ends_okQ hx with ⟨q0, hx⟩ | ⟨q0, rfl, rfl⟩ <;> rw [e37] at q0
  · rcases ends_cpuQ (c := c) e1 e20 hx with ⟨hcpu, hx⟩ | ⟨hcpu, rfl, rfl⟩
    · simp only [if_pos (And.intro q0 hcpu)]
      rcases ends_isQ hx with ⟨his, rfl, rfl⟩ | ⟨his, rfl, rfl⟩ <;> rw [e41] at his
      · by_cases hh : isHead g ⟨job, cpu, pc', 0, 0, slab, obj, h, tt, f, kk, n, last, many, dst, back, for_⟩
        · simp only [if_pos hh]
          exact ⟨by subst hσ; rfl, by omega, by simp, by simp, by simp⟩
        · rw [if_neg hh] at his; cases his
      · by_cases hh : isHead g ⟨job, cpu, pc', 0, 0, slab, obj, h, tt, f, kk, n, last, many, dst, back, for_⟩
        · rw [if_pos hh] at his; exact absurd rfl his
        · simp only [if_neg hh]
          exact ⟨by subst hσ; rfl, by omega, by simp, by simp, by simp⟩
    · simp only [if_neg (fun hh => hcpu (And.right hh))]
      exact ⟨by subst hσ; rfl, by omega, by simp, by simp, by simp⟩
  · simp only [if_neg (fun hh => q0 (And.left hh))]
    exact ⟨by subst hσ; rfl, by omega, by simp, by simp, by simp⟩
theorem tie_spec (hO : Own W (mB b0 b1 N k :: wB b1 g :: m) w) (hc : COk c d e) (hN : g.length = N) (hNw : N = c.words) (hk : k ≤ 1000000000) (ht : AtPc t 12) :
    Calls Try.prog 48 #[.pointer (some ⟨b0, 0, none⟩), cV c d e, t.v] w (StepRes W m b0 b1 N k (pTie c g t).1 (pTie c g t).2) := by
  have hN2 : N ≤ 4096 := by rw [hNw]; exact (words_le hc).1
  refine step_run (x := 0) (r := [0, 0, 0, 0, 0, 0, 0, (hideR t.last (keyG c.key t.slab) t.obj).1, (hideR t.last (keyG c.key t.slab) t.obj).2]) (g1 := g.set (linkN c t.slab t.obj) (hideR t.last (keyG c.key t.slab) t.obj).2) (g2 := g) (kn := knTie) (dm := dTie) hO hc hNw ht ?_ run12
    (bad_node (bad_linkQ bad_onT bad_onT) bad_onT) fun y s hx => ?_
  · exact KnAll.cons (kn_len rfl) (KnAll.app (kn_hide (e := keyE (v 5)) (a := 12) (b := 6) (keyG_lt _ _) keyE_ev rfl rfl) (KnAll.cons (kn_store (e := v 40) hN hN2 hk fun hcs => ⟨_, _, _, linkE_ev hc (link_of hcs), at_some (by have := link_lt (link_of hcs); omega), rfl, rfl⟩) (KnAll.cons (kn_storeN (e := v 40) hN2 hk ⟨_, rfl⟩) knAll_nil)))
  obtain ⟨job, cpu, pc', en, wa, slab, obj, h, tt, f, kk, n, last, many, dst, back, for_⟩ := t
  obtain ⟨h1, h2, h3⟩ := ht
  simp only at h1 h2 h3
  subst h1 h2 h3
  generalize hσ : sg _ c d e N _ _ = σ at hx
  have e1 : σ 1 = cpu := by rw [← hσ]; rfl
  have e5 : σ 5 = slab := by rw [← hσ]; rfl
  have e6 : σ 6 = obj := by rw [← hσ]; rfl
  have e20 : σ 20 = c.C := by rw [← hσ]; rfl
  have e21 : σ 21 = c.S := by rw [← hσ]; rfl
  have e22 : σ 22 = c.O := by rw [← hσ]; rfl
  have e39 : σ 39 = (hideR last (keyG c.key slab) obj).1 := by rw [← hσ]; rfl
  unfold pTie
  rcases ends_okQ hx with ⟨q0, hx⟩ | ⟨q0, rfl, rfl⟩ <;> rw [e39] at q0
  · rcases ends_linkQ (c := c) e5 e6 e21 e22 hx with ⟨hl, rfl, rfl⟩ | ⟨hl, rfl, rfl⟩
    · simp only [if_pos (And.intro q0 hl)]
      exact ⟨by subst hσ; rfl, by omega, by simp, by simp, by simp⟩
    · simp only [if_neg (fun hh => hl (And.right hh))]
      exact ⟨by subst hσ; rfl, by omega, by simp, by simp, by simp⟩
  · simp only [if_neg (fun hh => q0 (And.left hh))]
    exact ⟨by subst hσ; rfl, by omega, by simp, by simp, by simp⟩
end
end Go.Proofs.Ytigakendeghoaaa.Fast

/-
  fast.Step: every place of the table in one; tasks that do not run, or stand elsewhere. No condition.
-/
namespace Go.Proofs.Ytigakendeghoaaa.Fast
open Go Ex Mem See Step
section
variable {W w : World} {m : List (Nat × Obj)} {b0 b1 N k : Nat} {g : List Nat} {c : Ch} {d e : Int} {t : TaskP}
/-- in the table -/
def inT (pc : Int) : Prop := pc = 0 ∨ pc = 1 ∨ pc = 2 ∨ pc = 3 ∨ pc = 10 ∨ pc = 11 ∨ pc = 12 ∨ pc = 13
theorem step_spec (hO : Own W (mB b0 b1 N k :: wB b1 g :: m) w) (hc : COk c d e) (hN : g.length = N) (hNw : N = c.words) (hw : W64 g) (hk : k ≤ 1000000000) (hp : inT t.pc) (he : t.end_ = 0) (hwt : t.want = 0) :
    Calls Try.prog 48 #[.pointer (some ⟨b0, 0, none⟩), cV c d e, t.v] w (StepRes W m b0 b1 N k (stepP c g t).1 (stepP c g t).2) := by
  unfold stepP
  rcases hp with h | h | h | h | h | h | h | h <;> rw [h]
  · exact turn_spec hO hc hN hNw hk ⟨h, he, hwt⟩ (.inl rfl)
  · exact look_spec hO hc hN hNw hw hk ⟨h, he, hwt⟩
  · exact next_spec hO hc hN hNw hw hk ⟨h, he, hwt⟩
  · exact swap_spec (·.last) 12 3 0 (fun _ _ _ => rfl) (fun _ => rfl) run3 hO hc hN hNw hk ⟨h, he, hwt⟩
  · exact turn_spec hO hc hN hNw hk ⟨h, he, hwt⟩ (.inr rfl)
  · exact mine_spec hO hc hN hNw hw hk ⟨h, he, hwt⟩
  · exact tie_spec hO hc hN hNw hk ⟨h, he, hwt⟩
  · exact swap_spec (·.obj) 6 13 10 (fun _ _ _ => rfl) (fun _ => rfl) run13 hO hc hN hNw hk ⟨h, he, hwt⟩
/-! no step -/
noncomputable def zeroT : AV := .agg [nI 0, nI 0, nI 0, nI 0, nI 0, nI 0, nI 0, nU 0, nU 0, nU 0, nU 0, nU 0, nI 0, nI 0, nI 0, nI 0, nI 0]
noncomputable def runN (pc e : Int) : Bool := treeM Try.prog [] [] [kLen 76] 60 48 (.ptr 0 0 :: argsT (nI pc) (nI e) (nI 0)) 0 (.is (.tup [zeroT, nI 292]) 0) factsC
theorem no20 : runN 20 0 = true := by kernel_rfl
theorem no30 : runN 30 0 = true := by kernel_rfl
theorem no50 : runN 50 0 = true := by kernel_rfl
theorem no3 : runN 3 1 = true := by kernel_rfl
theorem no13 : runN 13 1 = true := by kernel_rfl
theorem none_spec {pc e' : Int} (hrun : runN pc e' = true) (hO : Own W (mB b0 b1 N k :: wB b1 g :: m) w) (hc : COk c d e) (hNw : N = c.words) (h1 : t.pc = pc) (h2 : t.end_ = e') (h3 : t.want = 0) :
    Calls Try.prog 48 #[.pointer (some ⟨b0, 0, none⟩), cV c d e, t.v] w fun r w' => r = .returned (.tuple #[({} : TaskP).v, .int .i64 292]) ∧ Own W (mB b0 b1 N k :: wB b1 g :: m) w' := by
  have hN0 : N ≠ 0 := by rw [hNw]; exact (words_le hc).2
  have := treeM_own (σ := sg t c d e N 0 []) (ω := ωM N k g g g) mixed ov_nil (KnAll.cons (kn_len rfl) knAll_nil) (xs := argsT (nI pc) (nI e') (nI 0)) rfl _ factsC (factsC_ok hc hN0) hrun (fun h => h) hO
  have hargs : Ex.valsOf (sg t c d e N 0 []) (argsT (nI pc) (nI e') (nI 0)) = [cV c d e, t.v] := by
    have h4 : ({ t with pc := pc, end_ := e', want := 0 } : TaskP) = t := by cases t; simp_all
    rw [← h4]
    rfl
  rw [hargs] at this
  refine this.mono ?_
  rintro r w' ⟨y, s, rfl, ⟨rfl, rfl⟩, h2⟩
  exact ⟨rfl, h2⟩
end
end Go.Proofs.Ytigakendeghoaaa.Fast

/-
  Structs in boxes of their own: a whole one stored, a whole one loaded, in one step. No condition.
-/
namespace Go.Proofs.Ytigakendeghoaaa
open Go.RowKit
section
variable {P : Program} {W w : World} {m : List (Nat × Obj)} {b : Nat} {old new : Array Value} {e t : TypeId}
theorem own_row (h : Own W ((b, .cells old e) :: m) w) (hl : old.size = new.size) : Own W ((b, .cells new e) :: m) (w.setRow b new) := by
  have hg := h.get (List.mem_cons_self)
  have hge := h.ge (List.mem_cons_self)
  have hot : ∀ c, c ≠ b → (w.setRow b new).heap[c]? = w.heap[c]? := fun c hc => setRow_other w b c new hc
  refine ⟨⟨h.below.os, h.below.tape, h.below.output, ?_, fun c hc => ?_⟩, fun p hm => ?_, h.nd⟩
  · simpa using h.below.size
  · rw [hot c (by omega)]
    exact h.below.block c hc
  · rcases List.mem_cons.1 hm with rfl | hm
    · exact ⟨hge, by rw [setRow_heap w b old new e (0, 0) hg]⟩
    · have hne : p.1 ≠ b := h.ne (b' := p.1) (o' := p.2) hm
      exact ⟨(h.at_ p (List.mem_cons_of_mem _ hm)).1, (hot p.1 hne).trans (h.at_ p (List.mem_cons_of_mem _ hm)).2⟩
theorem run_storeBox (h : Own W ((b, .cells old e) :: m) w) (hl : old.size = new.size) (h1 : ∀ u ∈ new.toList, u.oneCell' = true) (hs : Ex.sizeT P t = some new.size) :
    (Instr.storeAt t (.pointer (some ⟨b, 0, none⟩)) (.agg new)).run P w = .ok () (w.setRow b new) := by
  have hcur := h.get (List.mem_cons_self)
  have hst := run_storeCells_at P b 0 e new.toList 0 old w hcur (by simp; omega) h1
  simp only [Nat.add_zero, List.take_zero, List.nil_append, Nat.zero_add] at hst
  rw [List.drop_eq_nil_of_le (by simp; omega), List.append_nil, Array.toArray_toList] at hst
  simp [Instr.storeAt, Instr.sureAddr, storeVar, Ex.sizeT_run hs w, Value.cells, hst]
theorem wpList_storeBox {ops : Array Oper} {rest : List Oper} {o : Oper} {a : Act} {Q : Exit → Act → World → Prop} (hgd : o.guard = none) (p x : Operand)
    (ho : o.op = .store t p x) (hp : a.eval p = .pointer (some ⟨b, 0, none⟩)) (hx : a.eval x = .agg new) (hs : Ex.sizeT P t = some new.size)
    (hO : Own W ((b, .cells old e) :: m) w) (hl : old.size = new.size) (h1 : ∀ u ∈ new.toList, u.oneCell' = true)
    (h : ∀ w', Own W ((b, .cells new e) :: m) w' → wpList P ops Q rest (a.put o.dst undef) w') :
    wpList P ops Q (o :: rest) a w := by
  refine wpList_plain hgd fun K hK => ?_
  have hr := run_storeBox (P := P) (t := t) hO hl h1 hs
  unfold Oper.wp execOp
  simp only [ho, hp, hx, Sem.run_bind, Sem.run_pure, Result.andThen_ok, hr]
  exact hK _ _ (h _ (own_row hO hl))
theorem run_loadBox {fs : Array Field} (h : Own W ((b, .cells old e) :: m) w) (hu : P.underlying t = some (.struct fs)) (hs : Ex.sizeT P t = some old.size) :
    (Instr.loadAt t (.pointer (some ⟨b, 0, none⟩))).run P w = .ok (.agg old) w := by
  have hcur := h.get (List.mem_cons_self)
  have hrange : w.rangeAt b 0 old.toList := fun j z hz => by
    simp only [Array.getElem?_toList] at hz
    simp [World.cell?, hcur, hz]
  have := run_loadAt_mid (P := P) w b 0 t old.toList (.struct fs) hrange hu rfl (by rw [Ex.sizeT_info hs, Array.length_toList])
  simpa using this
theorem wpList_loadBox {fs : Array Field} {ops : Array Oper} {rest : List Oper} {o : Oper} {a : Act} {Q : Exit → Act → World → Prop} (hgd : o.guard = none) (p : Operand)
    (ho : o.op = .load t p) (hp : a.eval p = .pointer (some ⟨b, 0, none⟩)) (hu : P.underlying t = some (.struct fs))
    (hO : Own W ((b, .cells old e) :: m) w) (hs : Ex.sizeT P t = some old.size) (h : wpList P ops Q rest (a.put o.dst (.agg old)) w) :
    wpList P ops Q (o :: rest) a w := by
  refine wpList_plain hgd fun K hK => ?_
  have hr := run_loadBox (P := P) (t := t) hO hu hs
  unfold Oper.wp execOp
  simp only [ho, hp, Sem.run_bind, Sem.run_pure, Result.andThen_ok, hr]
  exact hK _ _ h
/-- at a step of a region that draws its order: '((refine step_storeBox (by rfl) _ _ (by rfl) (by rfl) (by rfl) ..); intro w' h')' -/
theorem step_storeBox {ops : Array Oper} {o : Oper} {a : Act} {K : Act → World → Prop} {Q : Exit → Act → World → Prop} {E : Prop} (hgd : o.guard = none) (p x : Operand)
    (ho : o.op = .store t p x) (hp : a.eval p = .pointer (some ⟨b, 0, none⟩)) (hx : a.eval x = .agg new)
    (hO : Own W ((b, .cells old e) :: m) w) (hs : Ex.sizeT P t = some new.size) (hl : old.size = new.size) (h1 : ∀ u ∈ new.toList, u.oneCell' = true)
    (h : ∀ w', Own W ((b, .cells new e) :: m) w' → K (a.put o.dst undef) w') :
    if Region.wanted o (yielded ops a.tmps) = true then Oper.wp P o a w K Q else E := by
  have hw : Region.wanted o (yielded ops a.tmps) = true := by simp [Region.wanted, hgd]
  rw [if_pos hw]
  have hr := run_storeBox (P := P) (t := t) hO hl h1 hs
  unfold Oper.wp execOp
  simp only [ho, hp, hx, Sem.run_bind, Sem.run_pure, Result.andThen_ok, hr]
  exact h _ (own_row hO hl)
theorem step_loadBox {fs : Array Field} {ops : Array Oper} {o : Oper} {a : Act} {K : Act → World → Prop} {Q : Exit → Act → World → Prop} {E : Prop} (hgd : o.guard = none) (p : Operand)
    (ho : o.op = .load t p) (hp : a.eval p = .pointer (some ⟨b, 0, none⟩)) (hu : P.underlying t = some (.struct fs))
    (hO : Own W ((b, .cells old e) :: m) w) (hs : Ex.sizeT P t = some old.size) (h : K (a.put o.dst (.agg old)) w) :
    if Region.wanted o (yielded ops a.tmps) = true then Oper.wp P o a w K Q else E := by
  have hw : Region.wanted o (yielded ops a.tmps) = true := by simp [Region.wanted, hgd]
  rw [if_pos hw]
  have hr := run_loadBox (P := P) (t := t) hO hu hs
  unfold Oper.wp execOp
  simp only [ho, hp, Sem.run_bind, Sem.run_pure, Result.andThen_ok, hr]
  exact h
end
end Go.Proofs.Ytigakendeghoaaa

/-
  wainscotlaw22.through: a task's steps, till it ends. No condition.
-/
namespace Go.Proofs.Ytigakendeghoaaa.Fast
open Go Ex Mem See Step
open Go.RowKit
open Apart (chV chB box6 ChAt)
/-- a task in a box -/
def tB (b : Nat) (t : TaskP) : Nat × Obj := (b, .cells #[.int .i64 t.job, .int .i64 t.cpu, .int .i64 t.pc, .int .i64 t.end_, .int .i64 t.want, .int .i64 t.slab, .int .i64 t.obj, .int .u64 (t.h : Int), .int .u64 (t.t : Int), .int .u64 (t.f : Int), .int .u64 (t.k : Int), .int .u64 (t.n : Int), .int .i64 t.last, .int .i64 t.many, .int .i64 t.dst, .int .i64 t.back, .int .i64 t.for_] 58)
/-- a task and words, step by step -/
def runP (c : Ch) : Nat → TaskP → List Nat → TaskP × List Nat
  | 0, t, g => (t, g)
  | n + 1, t, g => runP c n (stepP c g t).1 (stepP c g t).2
theorem runP_succ (c : Ch) : ∀ (n : Nat) (t : TaskP) (g : List Nat), runP c (n + 1) t g = stepP c (runP c n t g).2 (runP c n t g).1
  | 0, _, _ => rfl
  | n + 1, t, g => runP_succ c n (stepP c g t).1 (stepP c g t).2
section
variable {W w : World} {m : List (Nat × Obj)} {b0 b1 N k b : Nat} {g : List Nat} {c : Ch} {d e : Int} {t : TaskP}
theorem box_t (h : Own W (tB b t :: m) w) : (w.cell? ⟨b, 0, none⟩ = some (.int .i64 t.job) ∧ w.cell? ⟨b, 1, none⟩ = some (.int .i64 t.cpu) ∧ w.cell? ⟨b, 2, none⟩ = some (.int .i64 t.pc) ∧ w.cell? ⟨b, 3, none⟩ = some (.int .i64 t.end_) ∧ w.cell? ⟨b, 4, none⟩ = some (.int .i64 t.want) ∧ w.cell? ⟨b, 5, none⟩ = some (.int .i64 t.slab) ∧ w.cell? ⟨b, 6, none⟩ = some (.int .i64 t.obj) ∧ w.cell? ⟨b, 7, none⟩ = some (.int .u64 (t.h : Int)) ∧ w.cell? ⟨b, 8, none⟩ = some (.int .u64 (t.t : Int)) ∧ w.cell? ⟨b, 9, none⟩ = some (.int .u64 (t.f : Int)) ∧ w.cell? ⟨b, 10, none⟩ = some (.int .u64 (t.k : Int)) ∧ w.cell? ⟨b, 11, none⟩ = some (.int .u64 (t.n : Int)) ∧ w.cell? ⟨b, 12, none⟩ = some (.int .i64 t.last) ∧ w.cell? ⟨b, 13, none⟩ = some (.int .i64 t.many) ∧ w.cell? ⟨b, 14, none⟩ = some (.int .i64 t.dst) ∧ w.cell? ⟨b, 15, none⟩ = some (.int .i64 t.back) ∧ w.cell? ⟨b, 16, none⟩ = some (.int .i64 t.for_)) ∧ ∀ i, w.frozen? ⟨b, i, none⟩ = false := by
  have hc := fun i => h.cell List.mem_cons_self i
  exact ⟨⟨hc 0, hc 1, hc 2, hc 3, hc 4, hc 5, hc 6, hc 7, hc 8, hc 9, hc 10, hc 11, hc 12, hc 13, hc 14, hc 15, hc 16⟩, fun i => h.frozen List.mem_cons_self i⟩
theorem tB_ones (t : TaskP) : ∀ u ∈ (#[.int .i64 t.job, .int .i64 t.cpu, .int .i64 t.pc, .int .i64 t.end_, .int .i64 t.want, .int .i64 t.slab, .int .i64 t.obj, .int .u64 (t.h : Int), .int .u64 (t.t : Int), .int .u64 (t.f : Int), .int .u64 (t.k : Int), .int .u64 (t.n : Int), .int .i64 t.last, .int .i64 t.many, .int .i64 t.dst, .int .i64 t.back, .int .i64 t.for_] : Array Value).toList, u.oneCell' = true := by
  intro u hu
  simp only [List.mem_cons, List.not_mem_nil, or_false] at hu
  rcases hu with rfl | rfl | rfl | rfl | rfl | rfl | rfl | rfl | rfl | rfl | rfl | rfl | rfl | rfl | rfl | rfl | rfl <;> rfl
theorem chart_size : Ex.sizeT Try.prog 24 = some 6 := by kernel_rfl
theorem tB_size : Ex.sizeT Try.prog 58 = some 17 := by kernel_rfl
theorem th_p2 {α : Type} (b1 x b2 : α) (l : List α) : (b1 :: x :: b2 :: l).Perm (x :: b2 :: b1 :: l) := by
  classical
  rw [List.perm_iff_count]
  intro q
  simp only [List.count_cons]
  omega
theorem th_p3 {α : Type} (b2 b1 x ch a b : α) (l : List α) : (b2 :: b1 :: x :: ch :: a :: b :: l).Perm (b2 :: b1 :: x :: ch :: (a :: b :: l)) := List.Perm.refl _
theorem th_p1 {α : Type} (a b c x y : α) (l : List α) : (a :: b :: c :: x :: y :: l).Perm (x :: y :: a :: b :: c :: l) := by
  classical
  rw [List.perm_iff_count]
  intro q
  simp only [List.count_cons]
  omega
set_option maxRecDepth 100000 in
set_option maxHeartbeats 20000000 in
theorem through_spec (hO : Own W (mB b0 b1 N k :: wB b1 g :: m) w) (hc : COk c d e) (hN : g.length = N) (hNw : N = c.words) (n most : Nat) (hm : n ≤ most) (hmm : most ≤ 100000) (hk : k + n ≤ 1000000000)
    (hs : ∀ i, i < n → inT (runP c i t g).1.pc ∧ (runP c i t g).1.end_ = 0 ∧ (runP c i t g).1.want = 0 ∧ W64 (runP c i t g).2 ∧ (runP c i t g).2.length = N) (hend : (runP c n t g).1.end_ ≠ 0) (hpos : 0 < n) :
    Calls Try.prog 45 #[.pointer (some ⟨b0, 0, none⟩), cV c d e, t.v, .int .i64 most] w fun r w' => ∃ k', k' ≤ k + n ∧ r = .returned (.tuple #[(runP c n t g).1.v, .int .i64 n]) ∧ Own W (mB b0 b1 N k' :: wB b1 (runP c n t g).2 :: m) w' := by
  have h1 := ((hO.new (.cells #[.int .i64 c.C, .int .i64 c.S, .int .i64 c.O, .int .i64 d, .int .i64 e, .int .u64 c.key] 24)).new (tB 0 t).2).new (tB 0 {}).2
  obtain ⟨b, hb⟩ : ∃ b, w.heap.size = b := ⟨_, rfl⟩
  simp only [World.size_alloc] at h1
  rw [hb] at h1
  have h1 : Own W (tB (b + 1 + 1) {} :: tB (b + 1) t :: chB b c.C c.S c.O d e c.key :: mB b0 b1 N k :: wB b1 g :: m) _ := h1
  have H1 := Lib.hid h1
  have HC := Lib.hid hc
  have HS := Lib.hid hs
  have HE := Lib.hid hend
  have HN := Lib.hid hNw
  clear hO h1 hc hs hend hN hNw
  unfold cV chV TaskP.v
  go_enter Try.func45, Try.ntmps45
  go_wp2_with fail
  obtain ⟨wa, hwa⟩ : ∃ wa, (((w.alloc (.cells #[.int .i64 c.C, .int .i64 c.S, .int .i64 c.O, .int .i64 d, .int .i64 e, .int .u64 c.key] 24)).alloc (tB 0 t).2).alloc (tB 0 {}).2) = wa := ⟨_, rfl⟩
  rw [hwa] at H1
  have hwa2 : (((w.alloc (.cells #[.int .i64 c.C, .int .i64 c.S, .int .i64 c.O, .int .i64 d, .int .i64 e, .int .u64 c.key] 24)).alloc (.cells #[.int .i64 t.job, .int .i64 t.cpu, .int .i64 t.pc, .int .i64 t.end_, .int .i64 t.want, .int .i64 t.slab, .int .i64 t.obj, .int .u64 (t.h : Int), .int .u64 (t.t : Int), .int .u64 (t.f : Int), .int .u64 (t.k : Int), .int .u64 (t.n : Int), .int .i64 t.last, .int .i64 t.many, .int .i64 t.dst, .int .i64 t.back, .int .i64 t.for_] 58)).alloc (.cells #[.int .i64 0, .int .i64 0, .int .i64 0, .int .i64 0, .int .i64 0, .int .i64 0, .int .i64 0, .int .u64 0, .int .u64 0, .int .u64 0, .int .u64 0, .int .u64 0, .int .i64 0, .int .i64 0, .int .i64 0, .int .i64 0, .int .i64 0] 58)) = wa := hwa
  rw [hwa2]
  clear h1 hwa hwa2
  go_loopw [10] (fun iv wr => ∃ (i k' : Nat) (ti : TaskP) (gi : List Nat), iv = .int .i64 i ∧ i < n ∧ k' ≤ k + i ∧ Hid (runP c i t g = (ti, gi)) ∧ Own W (tB (b + 2) {} :: tB (b + 1) ti :: chB b c.C c.S c.O d e c.key :: mB b0 b1 N k' :: wB b1 gi :: m) wr) (fun iv _ => most - (intOf iv).toNat)
  case atStart => exact ⟨0, k, t, g, rfl, hpos, by omega, rfl, H1.out⟩
  case round =>
    clear H1
    obtain ⟨i, k', ti, gi, rfl, hi, hk', HR, hr⟩ := hrel
    obtain ⟨a1, a2, a3, a4, a5⟩ := HS.out i hi
    rw [HR.out] at a1 a2 a3 a4 a5
    simp only at a1 a2 a3 a4 a5
    have hst := step_spec (k := k') (hr.perm (th_p1 _ _ _ _ _ _)) HC.out a5 HN.out a4 (by omega) a1 a2 a3
    have hru := runP_succ c i t g
    rw [HR.out] at hru
    obtain ⟨⟨t1, g1⟩, hp⟩ : ∃ p, stepP c gi ti = p := ⟨_, rfl⟩
    simp only at hru hst
    rw [hp] at hru hst
    simp only at hst
    have HRU := Lib.hid hru
    have HST := Lib.hid hst
    have himost : (i : Int) < most := by omega
    have HB := Lib.hid (hr.perm (List.Perm.swap _ _ _))
    have HCB := Lib.hid (hr.perm (up2 _ _ _ _))
    clear a1 a2 a3 a4 a5 hst hp hru hr
    unfold TaskP.v cV chV at HST
    go_wp2_with (first | (refine wpList_loadBox (t := 58) rfl _ rfl rfl Try.underlying58 HB.out tB_size ?_) | (refine wpList_loadBox (t := 24) rfl _ rfl rfl Try.underlying24 HCB.out chart_size ?_))
    refine HST.out.mono ?_
    rintro r w3 ⟨q, hq, rfl, h3⟩
    clear HST HB HCB
    have h4 := h3.perm (th_p1 _ _ _ _ _ _).symm
    obtain ⟨j1, c1, p1, en1, wa1, s1, o1, hh1, tt1, ff1, kk1, nn1, la1, ma1, ds1, ba1, fo1⟩ := t1
    clear h3
    simp only [TaskP.v]
    by_cases hend : en1 = 0
    · subst hend
      have hne : i + 1 ≠ n := fun he => by
        have h1 := HE.out
        rw [← he, HRU.out] at h1
        exact h1 rfl
      have HN4 := Lib.hid (h4.new (tB 0 {}).2)
      have HON := Lib.hid (tB_ones ⟨j1, c1, p1, 0, wa1, s1, o1, hh1, tt1, ff1, kk1, nn1, la1, ma1, ds1, ba1, fo1⟩)
      clear h4
      go_wp2_with (first
        | (refine wpList_storeBox (t := 58) rfl _ _ rfl rfl rfl tB_size HN4.out rfl HON.out ?_; intro wS hS; have HX := Lib.hid hS; have H6 := Lib.hid (hS.perm (up2 _ _ _ _)); clear hS)
        | (refine wpList_loadBox (t := 58) rfl _ rfl rfl Try.underlying58 HX.out tB_size ?_)
        | (refine wpList_storeBox (t := 58) rfl _ _ rfl rfl rfl tB_size H6.out rfl HON.out ?_; intro wT hT; have z3 := hT.cell List.mem_cons_self 3; simp only [List.getElem?_toArray, List.getElem?_cons_succ, List.getElem?_cons_zero] at z3))
      exact ⟨⟨i + 1, k' + q, _, g1, by go_num, by omega, by omega, HRU.out, (hT.perm (th_p2 _ _ _ _)).skip⟩, by simp [intOf]; omega⟩
    · have hb0 : (en1 != 0) = true := by simpa using hend
      have hee : i + 1 = n := by
        rcases Nat.lt_or_ge (i + 1) n with hlt | hge
        · have h1 := (HS.out (i + 1) hlt).2.1
          rw [HRU.out] at h1
          exact absurd h1 hend
        · omega
      have HN4 := Lib.hid (h4.new (tB 0 {}).2)
      have HON := Lib.hid (tB_ones ⟨j1, c1, p1, en1, wa1, s1, o1, hh1, tt1, ff1, kk1, nn1, la1, ma1, ds1, ba1, fo1⟩)
      clear h4
      go_wp2_with (first
        | (refine wpList_storeBox (t := 58) rfl _ _ rfl rfl rfl tB_size HN4.out rfl HON.out ?_; intro wS hS; have HX := Lib.hid hS; have H6 := Lib.hid (hS.perm (up2 _ _ _ _)); clear hS)
        | (refine wpList_loadBox (t := 58) rfl _ rfl rfl Try.underlying58 HX.out tB_size ?_)
        | (refine wpList_storeBox (t := 58) rfl _ _ rfl rfl rfl tB_size H6.out rfl HON.out ?_; intro wT hT; have z3 := hT.cell List.mem_cons_self 3; simp only [List.getElem?_toArray, List.getElem?_cons_succ, List.getElem?_cons_zero] at z3; have HY := Lib.hid hT; have H7 := Lib.hid (hT.perm (up2 _ _ _ _)); clear hT)
        | (refine wpList_loadBox (t := 58) rfl _ rfl rfl Try.underlying58 HY.out tB_size ?_)
        | (refine wpList_storeBox (t := 58) rfl _ _ rfl rfl rfl tB_size H7.out rfl HON.out ?_; intro wU hU))
      have hfin := HRU.out
      rw [hee] at hfin
      rw [hfin]
      obtain ⟨⟨x0, x1, x2, x3, x4, x5, x6, x7, x8, x9, x10, x11, x12, x13, x14, x15, x16⟩, -⟩ := box_t (t := ⟨j1, c1, p1, en1, wa1, s1, o1, hh1, tt1, ff1, kk1, nn1, la1, ma1, ds1, ba1, fo1⟩) hU
      exact bodyPost_ret (v := .tuple #[.agg #[.int .i64 j1, .int .i64 c1, .int .i64 p1, .int .i64 en1, .int .i64 wa1, .int .i64 s1, .int .i64 o1, .int .u64 (hh1 : Int), .int .u64 (tt1 : Int), .int .u64 (ff1 : Int), .int .u64 (kk1 : Int), .int .u64 (nn1 : Int), .int .i64 la1, .int .i64 ma1, .int .i64 ds1, .int .i64 ba1, .int .i64 fo1], .int .i64 (i + 1 : Int)]) (by simp [results, Try.f45, go_sem, x0, x1, x2, x3, x4, x5, x6, x7, x8, x9, x10, x11, x12, x13, x14, x15, x16]) rfl ⟨k' + q, by omega, by rw [← hee]; rfl, hU.skip.skip.skip.skip⟩
end
end Go.Proofs.Ytigakendeghoaaa.Fast

/-
  Contracts: mem.New, Words; slices.Clone of words. No condition.
-/
namespace Go.Proofs.Ytigakendeghoaaa.Mem
open Go.RowKit
attribute [local go_sem ↓] Go.wp_at_zero Go.wp_at_succ
section
variable {W w : World} {m : List (Nat × Obj)} {b0 b1 N k b : Nat} {g : List Nat} {v : Value}
set_option maxHeartbeats 400000 in
theorem clone_spec (h : Own W m w) (hv : WordsSrc w v g) (hlen : g.length * 8 ≤ 140737488351232) :
    Calls Try.prog 93 #[v] w fun e w' => ∃ v' bs', e = .returned v' ∧ WordsOwn true v' g bs' ∧ Own W (bs' ++ m) w' := by
  rcases hv.2 with ⟨rfl, hn⟩ | ⟨a, c, rfl, hc⟩
  · have hl : g = [] := List.eq_nil_of_length_eq_zero hn
    subst hl
    have he := Lib.run_eql_slice_nil (P := Try.prog) w 35 22 none 0 0 0 0 Try.underlying35
    go_enter Try.func93, Try.ntmps93
    go_wp2
    go_ret
    exact ⟨_, [], rfl, SlO.nil _ _ _, h⟩
  · have he := Lib.run_eql_slice_nil (P := Try.prog) w 35 22 (some a) g.length c 0 0 Try.underlying35
    have hn := h.new (.cells #[] 22)
    have hs0 : WordsOwn true (.slice (some ⟨w.heap.size, 0, none⟩) 0 0) [] [(w.heap.size, .cells #[] 22)] := SlO.made true 22 1 w.heap.size 0 #[] 0 (Nat.le_refl _) (by unfold maxLen; omega) rfl
    have hx := hv.below (w' := w.alloc (.cells #[] 22)) ((Below.refl _ _).alloc (Nat.le_refl _) _)
    clear hv hc
    go_enter Try.func93, Try.ntmps93
    go_wp2_with (at_builtin; refine wpList_app_words rfl _ _ rfl rfl rfl hs0 hn hx (by simpa using hlen) ?_; intro v' w' bs' h1 h2 h3; have H1 := Lib.hid h1; clear h1 h3)
    go_ret
    exact ⟨_, bs', rfl, H1.out, h2⟩
theorem src_row (h : Own W (wB b1 g :: m) w) : WordsSrc w (.slice (some ⟨b1, 0, none⟩) g.length g.length) g :=
  ⟨by rw [words_len, Nat.mul_one], .inr ⟨_, _, rfl, fun j u hj => by
    rw [add_lit0]
    have hjl : j < g.length := by
      have := (List.getElem?_eq_some_iff.1 hj).1
      rw [words_len] at this
      exact this
    have hg1 : g[j]? = some (g[j]'hjl) := List.getElem?_eq_getElem hjl
    rw [words_get hg1] at hj
    rw [(cell_w h hg1).1, ← hj]⟩⟩
theorem words_spec (h : Own W (mB b0 b1 N k :: wB b1 g :: m) w) (hN : g.length = N) (hN2 : N ≤ 4096) :
    Calls Try.prog 75 #[.pointer (some ⟨b0, 0, none⟩)] w fun e w' => ∃ v' bs', e = .returned v' ∧ WordsOwn true v' g bs' ∧ Own W (bs' ++ (mB b0 b1 N k :: wB b1 g :: m)) w' := by
  obtain ⟨y0, y1, f1⟩ := box_m h
  have hs := src_row h.skip
  have hc := clone_spec h hs (by omega)
  rw [hN] at hc
  have HC := Lib.hid hc
  clear hc hs h hN
  go_enter Try.func75, Try.ntmps75
  go_wp2_with fail
  refine HC.out.mono ?_
  rintro e w3 ⟨v', bs', rfl, h3, h4⟩
  obtain ⟨A, c, rfl, -, -⟩ := h3.slice
  have H3 := Lib.hid h3
  have H4 := Lib.hid h4
  clear h3 h4
  go_wp2_with fail
  go_ret
  exact ⟨_, bs', rfl, H3.out, H4.out⟩
theorem row_zero (n : Nat) : Array.replicate n (Value.int .u64 0) = wRow (List.replicate n 0) := by
  unfold wRow words
  simp
set_option maxRecDepth 100000 in
theorem new_spec (h : Own W m w) (h1 : 1 ≤ N) (h2 : N ≤ 4096) :
    Calls Try.prog 71 #[.int .i64 N] w fun e w' => ∃ b0 b1, e = .returned (.tuple #[.pointer (some ⟨b0, 0, none⟩), .int .i64 0]) ∧ Own W (mB b0 b1 N 0 :: wB b1 (List.replicate N 0) :: m) w' := by
  obtain ⟨i, hi, hzz, hs, hby⟩ := info_get word_info
  have hmk := fun W => run_make_rowN (P := Try.prog) 35 22 i _ Try.underlying35 hi hzz .i64 .i64 N N (Nat.le_refl _) (by rw [hby]; omega) (by omega) W
  rw [hs, Nat.mul_one, madeCells_const _ (.int .u64 0) _ (by simp [Value.cells]) (by intro j hj; obtain rfl : j = 0 := (by simp [Value.cells] at hj; omega); rfl), row_zero] at hmk
  clear hi hzz hs hby
  have h3 : Own W (wB w.heap.size (List.replicate N 0) :: m) _ := h.new (.cells (wRow (List.replicate N 0)) 22)
  have h4 := h3.new (.cells #[.slice (some ⟨w.heap.size, 0, none⟩) N N, .int .i64 0] 70)
  rw [World.size_alloc] at h4
  have hi1 : (1 : Int) ≤ N := by omega
  have hi2 : (N : Int) ≤ 4096 := by omega
  clear h h3
  go_enter Try.func71, Try.ntmps71
  go_wp2_with fail
  go_ret2
  exact ⟨_, _, rfl, h4⟩
end
end Go.Proofs.Ytigakendeghoaaa.Mem

/-
  Contracts: a slab's numbers in a word (package count). No condition.
-/
namespace Go.Proofs.Ytigakendeghoaaa.See
open Go.RowKit
attribute [local go_sem ↓] Go.wp_at_zero Go.wp_at_succ
def mayB (a b : Int) (f l : Bool) : Bool := decide ((l = true ∧ 1 ≤ b ∧ b ≤ 16 ∧ 0 ≤ a ∧ a ≤ b) ∨ (a = 0 ∧ b = 0 ∧ f = false ∧ l = false))
section
variable {W w : World} {m : List (Nat × Obj)}
set_option maxHeartbeats 1000000 in
theorem may_spec (h : Own W m w) (a b : Int) (f l : Bool) : Calls Try.prog 91 #[.agg #[.int .i64 a, .int .i64 b, .bool f, .bool l]] w fun e w' => e = .returned (.bool (mayB a b f l)) ∧ Own W m w' := by
  have h0 := h.alloc (.cells #[.int .i64 a, .int .i64 b, .bool f, .bool l] 80)
  cases hm : mayB a b f l with
  | true =>
    rcases of_decide_eq_true hm with ⟨rfl, h1, h2, h3, h4⟩ | ⟨rfl, rfl, rfl, rfl⟩
    · clear hm
      go_enter Try.func91, Try.ntmps91
      go_wp2_with fail
      go_ret
      exact ⟨rfl, h0⟩
    · clear hm
      go_enter Try.func91, Try.ntmps91
      go_wp2_with fail
      go_ret
      exact ⟨rfl, h0⟩
  | false =>
    have hm := of_decide_eq_false hm
    cases l with
    | false =>
      have hn : ¬ (a = 0 ∧ b = 0 ∧ f = false) := fun hh => hm (.inr ⟨hh.1, hh.2.1, hh.2.2, rfl⟩)
      by_cases ha : a = 0
      · by_cases hb : b = 0
        · have hf : f = true := by
            cases f
            · exact absurd ⟨ha, hb, rfl⟩ hn
            · rfl
          subst ha hb hf
          clear hm hn
          go_enter Try.func91, Try.ntmps91
          go_wp2_with fail
          go_ret
          exact ⟨rfl, h0⟩
        · have hbb : (b == 0) = false := beq_eq_false_iff_ne.2 hb
          subst ha
          clear hm hn
          go_enter Try.func91, Try.ntmps91
          go_wp2_with fail
          go_ret
          exact ⟨rfl, h0⟩
      · have hab : (a == 0) = false := beq_eq_false_iff_ne.2 ha
        clear hm hn
        go_enter Try.func91, Try.ntmps91
        go_wp2_with fail
        go_ret
        exact ⟨rfl, h0⟩
    | true =>
      have hn : ¬ (1 ≤ b ∧ b ≤ 16 ∧ 0 ≤ a ∧ a ≤ b) := fun hh => hm (.inl ⟨rfl, hh⟩)
      clear hm
      rcases (show b < 1 ∨ (1 ≤ b ∧ 16 < b) ∨ (1 ≤ b ∧ b ≤ 16 ∧ a < 0) ∨ (1 ≤ b ∧ b ≤ 16 ∧ 0 ≤ a ∧ b < a) by omega) with h1 | ⟨h1, h2⟩ | ⟨h1, h2, h3⟩ | ⟨h1, h2, h3, h4⟩
      all_goals
        clear hn
        try have h5 : ¬ a ≤ b := by omega
        go_enter Try.func91, Try.ntmps91
        go_wp2_with fail
        go_ret
        exact ⟨rfl, h0⟩
theorem and_bit (x k : Nat) (hx : x < 18446744073709551616) (hk : k < 64) : bits .and .u64 (x : Int) ((2 ^ k : Nat) : Int) = ((2 ^ k * (x / 2 ^ k % 2) : Nat) : Int) := by
  have hp : 2 ^ k < 18446744073709551616 := by
    have := Nat.pow_lt_pow_right (a := 2) (by omega) hk
    exact this
  rw [u64_and_nat x (2 ^ k) hx hp]
  congr 1
  have ht : x.testBit k = decide (x / 2 ^ k % 2 = 1) := Nat.testBit_eq_decide_div_mod_eq
  apply Nat.eq_of_testBit_eq
  intro i
  rw [Nat.testBit_and, Nat.testBit_two_pow]
  rcases (show x / 2 ^ k % 2 = 0 ∨ x / 2 ^ k % 2 = 1 by omega) with h | h
  · rw [h, Nat.mul_zero, Nat.zero_testBit]
    by_cases hki : k = i
    · subst hki; rw [ht, h]; simp
    · simp [hki]
  · rw [h, Nat.mul_one, Nat.testBit_two_pow]
    by_cases hki : k = i
    · subst hki; rw [ht, h]; simp
    · simp [hki]
/-- what Counts answers -/
def countsV (w : Nat) : Value := match countsOf w with
  | some c => .tuple #[.agg #[.int .i64 c.inuse, .int .i64 c.objects, .bool c.frozen, .bool c.live], .bool true]
  | none => .tuple #[.agg #[.int .i64 0, .int .i64 0, .bool false, .bool false], .bool false]
theorem countsOf_may (x : Nat) (hx : x < 262144) : countsOf x = if mayB ((x % 256 : Nat) : Int) ((x / 256 % 256 : Nat) : Int) (decide (x / 65536 % 2 = 1)) (decide (x / 131072 % 2 = 1)) = true then some ⟨x % 256, x / 256 % 256, decide (x / 65536 % 2 = 1), decide (x / 131072 % 2 = 1)⟩ else none := by
  unfold countsOf mayB
  by_cases h0 : x = 0
  · subst h0
    decide
  · rw [if_neg h0]
    by_cases hl : x / 131072 % 2 = 1
    · rw [decide_eq_true hl]
      by_cases h1 : 131072 ≤ x ∧ x < 262144 ∧ 1 ≤ x / 256 % 256 ∧ x / 256 % 256 ≤ 16 ∧ x % 256 ≤ x / 256 % 256
      · rw [if_pos h1, if_pos (decide_eq_true (.inl ⟨rfl, by omega⟩))]
      · rw [if_neg h1, if_neg]
        intro h2
        rcases of_decide_eq_true h2 with ⟨-, h3⟩ | ⟨-, -, -, h3⟩
        · omega
        · cases h3
    · rw [decide_eq_false hl, if_neg (by omega), if_neg]
      intro h2
      rcases of_decide_eq_true h2 with ⟨h3, -⟩ | ⟨h3, h4, h5, -⟩
      · cases h3
      · have h5 := of_decide_eq_false h5
        omega
theorem countsOf_big (x : Nat) (hx : 262144 ≤ x) : countsOf x = none := by
  unfold countsOf
  rw [if_neg (by omega), if_neg (by omega)]
set_option maxRecDepth 100000 in
set_option maxHeartbeats 2000000 in
theorem counts_spec (h : Own W m w) (x : Nat) (hx : x < 18446744073709551616) : Calls Try.prog 83 #[.int .u64 x] w fun e w' => e = .returned (countsV x) ∧ Own W m w' := by
  have a1 := and255 x hx
  have a2 := and255 (x / 256) (by omega)
  have hd : (x : Int) / 256 = ((x / 256 : Nat) : Int) := by omega
  have a3 := and_bit x 16 hx (by omega)
  have a4 := and_bit x 17 hx (by omega)
  rw [show (2 : Nat) ^ 16 = 65536 from rfl] at a3
  rw [show (2 : Nat) ^ 17 = 131072 from rfl] at a4
  have hc1 := countsOf_may x
  have hc2 := countsOf_big x
  unfold countsV
  obtain ⟨A, hA⟩ : ∃ A, x % 256 = A := ⟨_, rfl⟩
  obtain ⟨Q, hQ⟩ : ∃ Q, x / 256 = Q := ⟨_, rfl⟩
  obtain ⟨B, hB⟩ : ∃ B, Q % 256 = B := ⟨_, rfl⟩
  obtain ⟨F, hF⟩ : ∃ F, x / 65536 % 2 = F := ⟨_, rfl⟩
  obtain ⟨L, hL⟩ : ∃ L, x / 131072 % 2 = L := ⟨_, rfl⟩
  rw [hA] at a1
  rw [hQ] at hd a2
  rw [hB] at a2
  rw [hF] at a3
  rw [hL] at a4
  rw [hA, hQ, hB, hF, hL] at hc1
  have A255 : A ≤ 255 := by omega
  have B255 : B ≤ 255 := by omega
  have F2 : F = 0 ∨ F = 1 := by omega
  have L2 : L = 0 ∨ L = 1 := by omega
  have b3 : (bits .and .u64 (x : Int) 65536 != 0) = decide (F = 1) := by
    have a3 : bits .and .u64 (x : Int) 65536 = ((65536 * F : Nat) : Int) := a3
    rw [a3]
    rcases F2 with rfl | rfl <;> rfl
  have b4 : (bits .and .u64 (x : Int) 131072 != 0) = decide (L = 1) := by
    have a4 : bits .and .u64 (x : Int) 131072 = ((131072 * L : Nat) : Int) := a4
    rw [a4]
    rcases L2 with rfl | rfl <;> rfl
  obtain ⟨f, hf⟩ : ∃ f, decide (F = 1) = f := ⟨_, rfl⟩
  obtain ⟨l, hl⟩ : ∃ l, decide (L = 1) = l := ⟨_, rfl⟩
  rw [hf] at b3 hc1
  rw [hl] at b4 hc1
  have h1 := h.new (.cells #[.int .i64 0, .int .i64 0, .bool false, .bool false] 80)
  have h2 := h1.new (.cells #[.int .i64 A, .int .i64 B, .bool f, .bool l] 80)
  simp only [World.size_alloc] at h2
  obtain ⟨g, hg⟩ : ∃ g, w.heap.size = g := ⟨_, rfl⟩
  rw [hg] at h1 h2
  have c1 := h1.cell List.mem_cons_self
  have f1 := h1.frozen List.mem_cons_self
  clear hA hQ hB hF hL hf hl a3 a4 F2 L2 hx
  by_cases hbig : x < 262144
  · have hc := hc1 hbig
    have hx : decide ((262144 : Int) ≤ x) = false := decide_eq_false (by omega)
    have hm := fun ws (hs : Own W ((g + 1, Obj.cells #[.int .i64 A, .int .i64 B, .bool f, .bool l] 80 (0, 0)) :: (g, Obj.cells #[.int .i64 0, .int .i64 0, .bool false, .bool false] 80 (0, 0)) :: m) ws) => may_spec hs A B f l
    cases hmay : mayB A B f l with
    | true =>
      rw [hmay] at hc hm
      simp only [if_true] at hc
      have HM := Lib.hid hm
      rw [hc]
      clear hc hbig hc1 hc2 hm hmay
      go_enter Try.func83, Try.ntmps83
      go_wp2_with fail
      refine (HM.out _ h2).mono ?_
      rintro e w3 ⟨rfl, h3⟩
      have q := h3.cell List.mem_cons_self
      have u := h3.frozen (List.mem_cons_of_mem _ List.mem_cons_self)
      have q0 := q 0
      have q1 := q 1
      have q2 := q 2
      have q3 := q 3
      have u0 := u 0
      have u1 := u 1
      have u2 := u 2
      have u3 := u 3
      simp at q0 q1 q2 q3
      have z := h3.cell (List.mem_cons_of_mem _ List.mem_cons_self)
      have z0 := z 0
      have z1 := z 1
      have z2 := z 2
      have z3 := z 3
      simp at z0 z1 z2 z3
      clear q u z b3 b4 a1 a2 hd
      go_wp2_with fail
      have h4 : Own W ([(g + 1, Obj.cells #[.int .i64 A, .int .i64 B, .bool f, .bool l] 80 (0, 0))] ++ (g, Obj.cells #[.int .i64 0, .int .i64 0, .bool false, .bool false] 80 (0, 0)) :: m) w3 := h3
      have h5 := (((h4.setIn 0 (.int .i64 A)).setIn 1 (.int .i64 B)).setIn 2 (.bool f)).setIn 3 (.bool l)
      have ec := h5.cell (List.mem_append_right _ List.mem_cons_self)
      have e0 := ec 0
      have e1 := ec 1
      have e2 := ec 2
      have e3 := ec 3
      simp at e0 e1 e2 e3
      exact bodyPost_ret (v := .tuple #[.agg #[(.int .i64 A), (.int .i64 B), (.bool f), (.bool l)], .bool true]) (by simp [results, Try.f83, go_sem, e0, e1, e2, e3]) rfl ⟨rfl, h5.drop1.dropL⟩
    | false =>
      rw [hmay] at hc hm
      simp only [Bool.false_eq_true, if_false] at hc
      have HM := Lib.hid hm
      rw [hc]
      clear hc hbig hc1 hc2 hm hmay
      go_enter Try.func83, Try.ntmps83
      go_wp2_with fail
      refine (HM.out _ h2).mono ?_
      rintro e w3 ⟨rfl, h3⟩
      have q := h3.cell List.mem_cons_self
      have u := h3.frozen (List.mem_cons_of_mem _ List.mem_cons_self)
      have q0 := q 0
      have q1 := q 1
      have q2 := q 2
      have q3 := q 3
      have u0 := u 0
      have u1 := u 1
      have u2 := u 2
      have u3 := u 3
      simp at q0 q1 q2 q3
      have z := h3.cell (List.mem_cons_of_mem _ List.mem_cons_self)
      have z0 := z 0
      have z1 := z 1
      have z2 := z 2
      have z3 := z 3
      simp at z0 z1 z2 z3
      clear q u z b3 b4 a1 a2 hd
      go_wp2_with fail
      have h4 : Own W ([(g + 1, Obj.cells #[.int .i64 A, .int .i64 B, .bool f, .bool l] 80 (0, 0))] ++ (g, Obj.cells #[.int .i64 0, .int .i64 0, .bool false, .bool false] 80 (0, 0)) :: m) w3 := h3
      have h5 := (((h4.setIn 0 (.int .i64 0)).setIn 1 (.int .i64 0)).setIn 2 (.bool false)).setIn 3 (.bool false)
      have ec := h5.cell (List.mem_append_right _ List.mem_cons_self)
      have e0 := ec 0
      have e1 := ec 1
      have e2 := ec 2
      have e3 := ec 3
      simp at e0 e1 e2 e3
      exact bodyPost_ret (v := .tuple #[.agg #[(.int .i64 0), (.int .i64 0), (.bool false), (.bool false)], .bool false]) (by simp [results, Try.f83, go_sem, e0, e1, e2, e3]) rfl ⟨rfl, h5.drop1.dropL⟩
  · have hc := hc2 (by omega)
    have hx : ¬ (x : Int) < 262144 := by omega
    rw [hc]
    clear hc hbig hc1 hc2
    go_enter Try.func83, Try.ntmps83
    go_wp2_with fail
    have ec := h2.cell (List.mem_cons_of_mem _ List.mem_cons_self)
    have e0 := ec 0
    have e1 := ec 1
    have e2 := ec 2
    have e3 := ec 3
    simp at e0 e1 e2 e3
    exact bodyPost_ret (v := .tuple #[.agg #[.int .i64 0, .int .i64 0, .bool false, .bool false], .bool false]) (by simp [results, Try.f83, go_sem, e0, e1, e2, e3]) rfl ⟨rfl, h2.skip.skip⟩
end
end Go.Proofs.Ytigakendeghoaaa.See
