/-
  Contracts: a slab's list (reader.list), its key. No condition.
-/
import Derived.Test.YtigakendeghoaaaSeeD
import Derived.Test.YtigakendeghoaaaSeeQ
import Derived.Test.YtigakendeghoaaaApartPlaces
namespace Go.Proofs.Ytigakendeghoaaa.See
open Go.RowKit
open Apart (chV)
open chartPlaces (Ok)
attribute [local go_sem ↓] Go.wp_at_zero Go.wp_at_succ
/-- a chart that may be -/
structure COk (c : Ch) (d e : Int) : Prop where
  ok : Ok c.C c.S c.O d e
  key : c.key < 18446744073709551616
theorem COk.nums {c : Ch} {d e : Int} (h : COk c d e) : 1 ≤ c.C ∧ c.C ≤ 8 ∧ 1 ≤ c.S ∧ c.S ≤ 32 ∧ 1 ≤ c.O ∧ c.O ≤ 16 := by
  have := h.ok
  unfold Ok at this
  omega
abbrev cV (c : Ch) (d e : Int) : Value := chV c.C c.S c.O d e c.key
/-- a reader -/
abbrev rV (B o N k : Nat) (c : Ch) (d e : Int) : Value := .agg #[.slice (some ⟨B, o, none⟩) N k, .int .i64 c.C, .int .i64 c.S, .int .i64 c.O, .int .i64 d, .int .i64 e, .int .u64 c.key]
theorem keyOf_lt (k s : Nat) : keyOf k s < 18446744073709551616 := Nat.mod_lt _ (by omega)
section
variable {W w : World} {m : List (Nat × Obj)} {B o N k : Nat} {g : List Nat} {c : Ch} {d e : Int}
set_option maxRecDepth 100000 in
theorem key_spec (s : Nat) (hs : s < 32) (h : Own W m w) : Calls Try.prog 32 #[cV c d e, .int .i64 s] w fun r w' => r = .returned (.int .u64 (keyOf c.key s : Nat)) ∧ Own W m w' := by
  have h1 := h.alloc (.cells #[.int .i64 c.C, .int .i64 c.S, .int .i64 c.O, .int .i64 d, .int .i64 e, .int .u64 c.key] 24)
  have hv : IntKind.u64.wrap ((c.key : Int) + IntKind.u64.wrap ((s : Int) * 11400714819323198485)) = ((keyOf c.key s : Nat) : Int) := by
    unfold keyOf
    rw [IntKind.wrap_u64, IntKind.wrap_u64]
    omega
  have HV := Lib.hid hv
  clear hv
  unfold cV chV
  go_enter Try.func32, Try.ntmps32
  go_wp2_with fail
  go_ret
  exact ⟨by rw [← HV.out]; rfl, h1⟩
/-- words of a core: as many as its chart says -/
structure WOk (W : World) (m : List (Nat × Obj)) (B o N k : Nat) (g : List Nat) (c : Ch) : Prop where
  rd : Rd W m B o g
  len : g.length = N
  n : N = c.words
  w64 : W64 g
  nk : N ≤ k
  km : k ≤ maxLen
theorem WOk.more {m' : List (Nat × Obj)} (h : WOk W m B o N k g c) : WOk W (m' ++ m) B o N k g c := ⟨h.rd.more, h.len, h.n, h.w64, h.nk, h.km⟩
theorem mul_in {s : Nat} (hs : s < c.S) : s * c.O + c.O ≤ c.S * c.O := by
  have := Nat.mul_le_mul_right c.O (show s + 1 ≤ c.S by omega)
  rw [Nat.succ_mul] at this
  exact this
theorem rd_links (h : WOk W m B o N k g c) {s : Nat} (hs : s < c.S) : Rd W m B (o + (4 * c.C + 4 + 4 * c.S + s * c.O)) (links c g s) := fun ws hw j x hj => by
  have hlt := (List.getElem?_eq_some_iff.1 hj).1
  rw [links_len (h.len.trans h.n) hs] at hlt
  rw [links_get (h.len.trans h.n) hs hlt] at hj
  have hm := mul_in hs
  have hn := h.len.trans h.n
  unfold Ch.words at hn
  have hx : g[4 * c.C + 4 + 4 * c.S + s * c.O + j]? = some x := by
    rw [List.getElem?_eq_getElem (by omega)]
    unfold at_ at hj
    rw [List.getD_eq_getElem?_getD, List.getElem?_eq_getElem (by omega)] at hj
    exact hj
  have := h.rd ws hw _ x hx
  rw [← Nat.add_assoc] at this
  exact this
theorem w64_links (h : WOk W m B o N k g c) (s : Nat) : W64 (links c g s) := fun x hx => by
  unfold links at hx
  exact h.w64 x (List.mem_of_mem_drop (List.mem_of_mem_take hx))
/-- a reader's block -/
def rBlk (b B o N k : Nat) (c : Ch) (d e : Int) : Nat × Obj := (b, .cells #[.slice (some ⟨B, o, none⟩) N k, .int .i64 c.C, .int .i64 c.S, .int .i64 c.O, .int .i64 d, .int .i64 e, .int .u64 c.key] 84)
theorem box7 {b : Nat} (h : Own W (rBlk b B o N k c d e :: m) w) : w.cell? ⟨b, 0, none⟩ = some (.slice (some ⟨B, o, none⟩) N k) ∧ w.cell? ⟨b, 1, none⟩ = some (.int .i64 c.C) ∧ w.cell? ⟨b, 2, none⟩ = some (.int .i64 c.S) ∧ w.cell? ⟨b, 3, none⟩ = some (.int .i64 c.O) ∧ w.cell? ⟨b, 4, none⟩ = some (.int .i64 d) ∧ w.cell? ⟨b, 5, none⟩ = some (.int .i64 e) ∧ w.cell? ⟨b, 6, none⟩ = some (.int .u64 c.key) :=
  ⟨h.cell List.mem_cons_self 0, h.cell List.mem_cons_self 1, h.cell List.mem_cons_self 2, h.cell List.mem_cons_self 3, h.cell List.mem_cons_self 4, h.cell List.mem_cons_self 5, h.cell List.mem_cons_self 6⟩
/-- what list answers -/
def RlPost (W : World) (m : List (Nat × Obj)) (r : Option (List Int)) (e : Ending) (w' : World) : Prop := match r with
  | some l => ∃ v bs, e = .returned (.tuple #[v, .bool true]) ∧ Hid (IntsOwn true v l bs) ∧ Own W (bs ++ m) w'
  | none => e = .returned (.tuple #[.slice none 0 0, .bool false]) ∧ Own W m w'
theorem listP_in {s : Nat} (hs : s < c.S) {i : Int} (h0 : -1 ≤ i) (h1 : i < c.O) : listP c g s i = walk (shW (keyOf c.key s)) (links c g s) (c.O + 1) [] i := by
  unfold listP
  rw [if_pos ⟨by omega, by omega, h0, h1⟩]
  rfl
theorem listP_out {s : Nat} {i : Int} (h1 : (c.O : Int) ≤ i) : listP c g s i = none := by
  unfold listP
  rw [if_neg (by omega)]
set_option maxRecDepth 100000 in
set_option maxHeartbeats 2000000 in
theorem rlist_spec (h : Own W m w) (hc : COk c d e) (hw : WOk W m B o N k g c) (s : Nat) (hs : s < c.S) (i : Int) (hi : -1 ≤ i) :
    Calls Try.prog 81 #[rV B o N k c d e, .int .i64 s, .int .i64 i] w (RlPost W m (listP c g s i)) := by
  obtain ⟨n1, n2, n3, n4, n5, n6⟩ := hc.nums
  have h1 := h.new (.cells #[.slice (some ⟨B, o, none⟩) N k, .int .i64 c.C, .int .i64 c.S, .int .i64 c.O, .int .i64 d, .int .i64 e, .int .u64 c.key] 84)
  obtain ⟨b, hb⟩ : ∃ b, w.heap.size = b := ⟨_, rfl⟩
  rw [hb] at h1
  have h1 : Own W (rBlk b B o N k c d e :: m) _ := h1
  obtain ⟨y0, y1, y2, y3, y4, y5, y6⟩ := box7 h1
  by_cases hio : i < c.O
  · have hnio : ¬ (c.O : Int) ≤ i := by omega
    have hsi : 0 ≤ (s : Int) ∧ (s : Int) < (c.S : Int) := by omega
    have hm := mul_in hs
    have hN := hw.n
    unfold Ch.words at hN
    have hle : 4 * c.C + 4 + 4 * c.S + s * c.O + c.O ≤ N := by omega
    have hnk := hw.nk
    have hkm := hw.km
    have hls := fun ws (hws : Own W (rBlk b B o N k c d e :: m) ws) => list_spec (c := k - (4 * c.C + 4 + 4 * c.S + s * c.O)) hws ((rd_links hw hs).more (m' := [rBlk b B o N k c d e])) (n := c.O) (links_len (hw.len.trans hw.n) hs) n6 (w64_links hw s) (by omega) (by omega) (keyOf c.key s) (keyOf_lt _ _) i hi hio
    rw [← listP_in hs hi hio] at hls
    clear hN hm hkm
    have HC := Lib.hid hc
    have HS := Lib.hid hsi
    have HM := Lib.hid hw.rd
    obtain ⟨p, hp⟩ : ∃ p : Nat, 4 * c.C + 4 + 4 * c.S + s * c.O = p := ⟨_, rfl⟩
    have hpi : 4 * (c.C : Int) + 4 + 4 * (c.S : Int) + (s : Int) * (c.O : Int) + 0 = (p : Int) := by rw [← hp]; push_cast; omega
    have HPI := Lib.hid hpi
    rw [hp] at hle hls
    have hs32 : s < 32 := by omega
    have hp0 : (0 : Int) ≤ (p : Int) := by omega
    have hpN : p ≤ 700 := by
      have := Nat.mul_le_mul (show s ≤ 32 by omega) n6
      omega
    have hw1 : IntKind.i64.wrap ((p : Int) + (c.O : Int)) = (p : Int) + (c.O : Int) := by rw [IntWalk.i64_in] <;> omega
    have hp1 : (p : Int) ≤ (p : Int) + (c.O : Int) := by omega
    have hp2 : (p : Int) + (c.O : Int) ≤ (N : Int) := by omega
    have hp3 : (p : Int) + (c.O : Int) ≤ (k : Int) := by omega
    have HLN : Hid (((p : Int) + (c.O : Int)).toNat - p = c.O) := by
      show _ = _
      omega
    clear hp hpi hw hc
    obtain ⟨R, hR⟩ : ∃ R, listP c g s i = R := ⟨_, rfl⟩
    rw [hR] at hls ⊢
    clear hR
    unfold rV
    cases R with
    | none =>
      have HL := Lib.hid hls
      clear hls
      go_enter Try.func81, Try.ntmps81
      go_wp2_with fail
      refine (Apart.link_ok HC.out.ok HS.out (k := 0) (by omega) h1).mono ?_
      rintro r w2 ⟨rfl, h2⟩
      rw [HPI.out]
      clear y0 y1 y2 y3 y4 y5 y6
      obtain ⟨y0, y1, y2, y3, y4, y5, y6⟩ := box7 h2
      have H2 := Lib.hid h2
      clear h1 h2
      go_wp2_with fail
      go_region_held3 (fun w' => w'.cell? ⟨b, 0, none⟩ = some (.slice (some ⟨B, o, none⟩) N k) ∧ w'.cell? ⟨b, 1, none⟩ = some (.int .i64 c.C) ∧ w'.cell? ⟨b, 2, none⟩ = some (.int .i64 c.S) ∧ w'.cell? ⟨b, 3, none⟩ = some (.int .i64 c.O) ∧ w'.cell? ⟨b, 4, none⟩ = some (.int .i64 d) ∧ w'.cell? ⟨b, 5, none⟩ = some (.int .i64 e) ∧ w'.cell? ⟨b, 6, none⟩ = some (.int .u64 c.key)) (first | (refine ⟨?_, ?_, ?_, ?_, ?_, ?_, ?_⟩ <;> assumption) | go_keep)
        (first | (go_at_call 32; refine (key_spec s hs32 H2.out.drew).mono ?_; rintro r w3 ⟨rfl, h3⟩; obtain ⟨y0, y1, y2, y3, y4, y5, y6⟩ := box7 h3) |
          (go_at_call 103; rw [HLN.out]; refine (HL.out _ h3).mono ?_; rintro r w4 ⟨rfl, h4⟩; obtain ⟨y0, y1, y2, y3, y4, y5, y6⟩ := box7 h4))
      go_wp2_with fail
      go_ret2
      exact ⟨rfl, h4.skip⟩
    | some l =>
      have HL := Lib.hid hls
      clear hls
      go_enter Try.func81, Try.ntmps81
      go_wp2_with fail
      refine (Apart.link_ok HC.out.ok HS.out (k := 0) (by omega) h1).mono ?_
      rintro r w2 ⟨rfl, h2⟩
      rw [HPI.out]
      clear y0 y1 y2 y3 y4 y5 y6
      obtain ⟨y0, y1, y2, y3, y4, y5, y6⟩ := box7 h2
      have H2 := Lib.hid h2
      clear h1 h2
      go_wp2_with fail
      go_region_held3 (fun w' => w'.cell? ⟨b, 0, none⟩ = some (.slice (some ⟨B, o, none⟩) N k) ∧ w'.cell? ⟨b, 1, none⟩ = some (.int .i64 c.C) ∧ w'.cell? ⟨b, 2, none⟩ = some (.int .i64 c.S) ∧ w'.cell? ⟨b, 3, none⟩ = some (.int .i64 c.O) ∧ w'.cell? ⟨b, 4, none⟩ = some (.int .i64 d) ∧ w'.cell? ⟨b, 5, none⟩ = some (.int .i64 e) ∧ w'.cell? ⟨b, 6, none⟩ = some (.int .u64 c.key)) (first | (refine ⟨?_, ?_, ?_, ?_, ?_, ?_, ?_⟩ <;> assumption) | go_keep)
        (first | (go_at_call 32; refine (key_spec s hs32 H2.out.drew).mono ?_; rintro r w3 ⟨rfl, h3⟩; obtain ⟨y0, y1, y2, y3, y4, y5, y6⟩ := box7 h3) |
          (go_at_call 103; rw [HLN.out]; refine (HL.out _ h3).mono ?_; rintro r w4 ⟨v4, bs4, rfl, K4, h4⟩; obtain ⟨y0, y1, y2, y3, y4, y5, y6⟩ := box7 (h4.perm List.perm_middle)))
      go_wp2_with fail
      go_ret2
      exact ⟨v4, bs4, rfl, K4, h4.drop1⟩
  · have hnio : (c.O : Int) ≤ i := by omega
    rw [listP_out hnio]
    unfold rV
    go_enter Try.func81, Try.ntmps81
    go_wp2_with fail
    go_ret2
    exact ⟨rfl, h1.skip⟩
end
end Go.Proofs.Ytigakendeghoaaa.See
