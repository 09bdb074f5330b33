import Derived.Test.YtcbljokbechppaaBkBackB
/-
  wainscotlaw23.BackAlone: what the words say behind the steps; the facts. No condition.
-/
namespace Go.Proofs.Ytcbljokbechppaa.Back
open Go Ex Mem See Fast
open Go.RowKit
namespace Nb
def isWay (n : Nb) : Way → Prop
  | .A z => n.fz = true ∧ z = n.z
  | .B => n.fz = false ∧ n.a = 0 ∧ 0 < n.cp
  | .C => n.fz = false ∧ n.a = 0 ∧ n.cp = 0
  | .D => n.fz = false ∧ n.a ≠ 0 ∧ n.a + 1 < n.k
  | .E => n.fz = false ∧ n.a ≠ 0 ∧ ¬ n.a + 1 < n.k ∧ 0 < n.mn
  | .F => n.fz = false ∧ n.a ≠ 0 ∧ ¬ n.a + 1 < n.k ∧ n.mn = 0
theorem way_is (n : Nb) : n.isWay n.way := by
  unfold Nb.way
  cases hf : n.fz with
  | true => exact ⟨hf, rfl⟩
  | false =>
    simp only [Bool.false_eq_true, if_false]
    by_cases h0 : n.a = 0
    · rw [if_pos h0]
      by_cases h1 : 0 < n.cp
      · rw [if_pos h1]; exact ⟨hf, h0, h1⟩
      · rw [if_neg h1]; exact ⟨hf, h0, by omega⟩
    · rw [if_neg h0]
      by_cases h1 : n.a + 1 < n.k
      · rw [if_pos h1]; exact ⟨hf, h0, h1⟩
      · rw [if_neg h1]
        by_cases h2 : 0 < n.mn
        · rw [if_pos h2]; exact ⟨hf, h0, h1, h2⟩
        · rw [if_neg h2]; exact ⟨hf, h0, h1, by omega⟩
theorem z_ne {n : Nb} (h : n.a ≠ 0) : n.z = false := by unfold Nb.z; exact beq_false_of_ne h
theorem z_eq {n : Nb} (h : n.a = 0) : n.z = true := by unfold Nb.z; rw [h]; rfl
theorem way_z (n : Nb) : n.way.z = n.z ∧ n.way.fz = n.fz := by
  have := n.way_is
  cases hw : n.way with
  | A z => rw [hw] at this; exact ⟨this.2, this.1.symm⟩
  | B => rw [hw] at this; exact ⟨(z_eq this.2.1).symm, this.1.symm⟩
  | C => rw [hw] at this; exact ⟨(z_eq this.2.1).symm, this.1.symm⟩
  | D => rw [hw] at this; exact ⟨(z_ne this.2.1).symm, this.1.symm⟩
  | E => rw [hw] at this; exact ⟨(z_ne this.2.1).symm, this.1.symm⟩
  | F => rw [hw] at this; exact ⟨(z_ne this.2.1).symm, this.1.symm⟩
section
variable {n : Nb} (h : n.Ok)
include h
omit h in
theorem base_low {i : Nat} (hi : i < 16) : at_ n.base i = at_ n.G0 i := at_set_ne (by omega)
omit h in
theorem base_len : n.base.length = 16 + 2 * n.k := by unfold Nb.base; rw [List.length_set]; exact slG_len
omit h in
theorem base_high {i : Nat} (hi : i < n.K) : at_ n.base (16 + n.k + i) = at_ n.G0 (16 + n.k + i) := at_set_ne (by omega)
theorem base_obj : at_ n.base (16 + n.k + n.K) = n.H := at_set_self (by have := h.G0len; unfold Nb.k at this ⊢; omega)
theorem P_lt : n.P0 < 18446744073709551616 ∧ n.P1 < 18446744073709551616 ∧ n.H < 18446744073709551616 := by
  have := h.k16
  refine ⟨packN_lt (by omega) (by omega), packN_lt (by omega) (by omega), ?_⟩
  unfold Nb.H
  split <;> exact hide_lt (by omega)
theorem w64_base : W64 n.base := w64_set (w64_slG (by have := h.k16; omega) h.k16.2.1 (P_lt h).1) (P_lt h).2.2
omit h in
/-- the places of the words, behind the steps -/
theorem G1_len : n.G1.length = 16 + 2 * n.k := by
  unfold Nb.G1 Nb.turn
  cases n.way <;> simp only [List.length_set, base_len]
theorem w64_G1 : W64 n.G1 := by
  have hk := h.k16
  have hb := w64_base h
  have hP := (P_lt h).2.1
  have ht : ∀ x, W64 x → W64 (n.turn x) := fun x hx => w64_set (w64_set hx (by omega)) hP
  unfold Nb.G1
  cases n.way with
  | B => exact w64_set (w64_set (w64_set (ht _ hb) (by omega)) (by omega)) (by omega)
  | E => exact w64_set (ht _ (w64_set hb (by omega))) (by omega)
  | F => exact w64_set (w64_set (ht _ (w64_set hb (by omega))) (by omega)) (by omega)
  | A z => exact ht _ hb
  | C => exact ht _ hb
  | D => exact ht _ hb
omit h in
theorem G1_high (i : Nat) : at_ n.G1 (16 + i) = at_ n.base (16 + i) := by
  unfold Nb.G1 Nb.turn
  cases n.way <;> simp only [at_set_ne (show 12 ≠ 16 + i by omega), at_set_ne (show 13 ≠ 16 + i by omega), at_set_ne (show 14 ≠ 16 + i by omega), at_set_ne (show 2 ≠ 16 + i by omega), at_set_ne (show 3 ≠ 16 + i by omega), at_set_ne (show 4 ≠ 16 + i by omega), at_set_ne (show 5 ≠ 16 + i by omega), at_set_ne (show 6 ≠ 16 + i by omega)]
/-- .. the first ones -/
def lowAt (n : Nb) (i : Nat) : Nat := if i = 12 then n.k else if i = 13 then n.P1 else match n.way with
  | .B => if i = 2 then 66 else if i = 3 then 1 else if i = 14 then 0 else at_ n.G0 i
  | .E => if i = 4 then 0 else at_ n.G0 i
  | .F => if i = 4 then 1 else if i = 5 then 0 else if i = 6 then 0 else at_ n.G0 i
  | _ => at_ n.G0 i
omit h in
theorem G1_low {i : Nat} (hi : i < 16) : at_ n.G1 i = n.lowAt i := by
  have hb := base_len (n := n)
  unfold Nb.G1 lowAt Nb.turn
  cases n.way <;> simp (disch := (simp only [List.length_set, hb]; omega)) only [at_set, base_low hi] <;> (repeat' split) <;> first | rfl | omega
/-- the list -/
def L1 (n : Nb) : List Int := n.want n.a
theorem L1_lk : LkB n.G1 (16 + n.k) n.key1 n.L1 := by
  have hk := h.k16
  have hKk : n.k = n.K + 1 := rfl
  refine ⟨?_, ?_⟩
  · rw [Int.toNat_natCast, show 16 + n.k + n.K = 16 + (n.k + n.K) from by omega, G1_high, ← Nat.add_assoc, base_obj h, fst_upL]
    unfold Nb.H
    by_cases h0 : n.a = 0
    · rw [z_eq h0, if_pos rfl, if_neg (by omega)]
      exact show_hide (by omega) (by omega)
    · rw [z_ne h0, if_neg (by decide), if_pos (by omega)]
      exact show_hide (by omega) (by omega)
  · refine slG_lk (P := n.P0) (sh := n.sh) (by omega) hk.1 hk.2.1 fun i hi => ?_
    rw [Nat.add_assoc, G1_high, ← Nat.add_assoc]
    have := h.a
    exact base_high (by omega)
theorem L1_bd : ∀ x ∈ n.L1, 0 ≤ x ∧ x < (n.k : Int) := by
  have hk := h.k16
  have hKk : n.k = n.K + 1 := rfl
  intro x hx
  rcases List.mem_cons.1 hx with rfl | hx
  · omega
  · have := mem_upL.1 hx
    omega
theorem L1_nd : n.L1.Nodup := by
  refine List.nodup_cons.2 ⟨fun hm => ?_, upL_nodup _ _⟩
  have := mem_upL.1 hm
  have := h.a
  omega
omit h in
theorem lowAt_ne {i : Nat} (h12 : i ≠ 12) (h13 : i ≠ 13) (h2 : i ≠ 2) (h3 : i ≠ 3) (h4 : i ≠ 4) (h5 : i ≠ 5) (h6 : i ≠ 6) (h14 : i ≠ 14) : n.lowAt i = at_ n.G0 i := by
  unfold lowAt
  rw [if_neg h12, if_neg h13]
  cases n.way <;> simp only [if_neg h2, if_neg h3, if_neg h4, if_neg h5, if_neg h6, if_neg h14]
theorem slabbed1 : Slabbed n.k n.key n.G1 n.L1 n.cn n.parts n.shelf n.lk := by
  have hk := h.k16
  have hKk : n.k = n.K + 1 := rfl
  have hw := n.way_is
  have n14 : nextAt (c2 n.k n.key) n.G1 1 = 0 := by
    show at_ n.G1 14 = 0
    rw [G1_low (by omega)]
    unfold lowAt
    rw [if_neg (by omega), if_neg (by omega)]
    have hz := at_zero h (i := 14) (by omega) (by omega) (by omega) (by omega) (by omega)
    cases n.way <;> simp [hz]
  have p2 : at_ n.G1 2 = if n.parts = [] then 0 else 66 := by
    rw [G1_low (by omega)]
    unfold lowAt Nb.parts
    rw [if_neg (by omega), if_neg (by omega)]
    have hz := at_zero h (i := 2) (by omega) (by omega) (by omega) (by omega) (by omega)
    cases n.way <;> simp [hz]
  have p5 : at_ n.G1 5 = if n.shelf = [] then 0 else 2 := by
    rw [G1_low (by omega)]
    unfold lowAt Nb.shelf
    rw [if_neg (by omega), if_neg (by omega)]
    have hz := at5 h
    unfold Nb.sh at hz
    unfold isWay at hw
    cases hw' : n.way <;> rw [hw'] at hw <;> simp only [hw.1, hz]
    · simp
    · rw [z_eq hw.2.1]; simp
    · rw [z_eq hw.2.1]; simp
    · rw [z_ne hw.2.1]; simp
    · rw [z_ne hw.2.1]; simp
    · simp
  have p4 : at_ n.G1 4 = if n.lk then 1 else 0 := by
    rw [G1_low (by omega)]
    unfold lowAt Nb.lk
    rw [if_neg (by omega), if_neg (by omega)]
    have hz := at_zero h (i := 4) (by omega) (by omega) (by omega) (by omega) (by omega)
    cases n.way <;> simp [hz]
  have hch1 : ∀ of : Nat → Option Int, ∀ w, of w = some 1 → of 0 = some (-1) → chain of (nextAt (c2 n.k n.key) n.G1) 2 3 [] w = some [1] := by
    intro of w h1 h2
    unfold chain
    rw [h1]
    simp only
    rw [if_neg (by simp), if_neg (by omega), n14]
    unfold chain
    rw [h2]
    simp
  have hch0 : ∀ of : Nat → Option Int, ∀ w, of w = some (-1) → chain of (nextAt (c2 n.k n.key) n.G1) 2 3 [] w = some [] := by
    intro of w h1
    unfold chain
    rw [h1]
    simp
  refine ⟨G1_len, w64_G1 h, ?_, ?_, ?_, ?_, ?_, ?_, ?_, ?_, L1_nd h, L1_bd h, L1_lk h⟩
  · rw [G1_low (by omega), lowAt_ne (by omega) (by omega) (by omega) (by omega) (by omega) (by omega) (by omega) (by omega)]
    exact at_zero h (by omega) (by omega) (by omega) (by omega) (by omega)
  · rw [p2]
    show chain _ _ 2 3 [] _ = _
    unfold Nb.parts
    cases n.way <;> first | exact hch0 _ _ rfl | exact hch1 _ _ rfl rfl
  · show chain shelfOf _ 2 3 [] (at_ n.G1 5) = _
    rw [p5]
    unfold Nb.shelf
    cases n.way <;> first | exact hch0 _ _ rfl | exact hch1 _ _ rfl rfl
  · rw [p4]
    cases n.lk <;> rfl
  · rw [G1_low (by omega), lowAt_ne (by omega) (by omega) (by omega) (by omega) (by omega) (by omega) (by omega) (by omega)]
    exact at_zero h (by omega) (by omega) (by omega) (by omega) (by omega)
  · rw [G1_low (by omega), lowAt_ne (by omega) (by omega) (by omega) (by omega) (by omega) (by omega) (by omega) (by omega)]
    exact at_zero h (by omega) (by omega) (by omega) (by omega) (by omega)
  · rw [G1_low (by omega)]
    show ((n.k : Nat) : Int) = (n.K : Int) + 1
    omega
  · rw [G1_low (by omega)]
    show countsOf n.P1 = _
    exact countsOf_pack (by omega) (by omega) (by omega)
theorem see1 : seeP (c2 n.k n.key) n.G1 = some ⟨[⟨-1, [], at_ n.G1 1, n.parts⟩], n.shelf, n.lk, [⟨⟨0, 0, false, false⟩, []⟩, ⟨n.cn, n.L1⟩]⟩ := (slabbed1 h).see h.k16.1
omit h in
theorem nats_set (g : List Nat) (i x : Nat) : natsI (g.set i x) = (natsI g).set i (x : Int) := by
  unfold natsI
  rw [List.map_set]
omit h in
theorem rec_set {L e x : SE} {g : List Nat} {i y : Nat} (hL : LsRec n.σX L (one (natsI g))) (he : e.ev n.σX = (i : Int)) (hx : x.ev n.σX = (y : Int)) (hi : i < g.length) : LsRec n.σX (.lset L e 0 x) (one (natsI (g.set i y))) := by
  rw [nats_set]
  exact hL.set he hx (by rw [natsI_len]; exact hi)
theorem end_rec : LsRec n.σX n.way.end_ (one (natsI n.G1)) := by
  have hk := h.k16
  have hKk : n.k = n.K + 1 := rfl
  have hl : n.G0.length = 16 + 2 * n.k := slG_len
  have h0 : LsRec n.σX (.lvar 0) (one (natsI n.G0)) := LsRec.var' (by omega) rfl
  have hb : LsRec n.σX (.lset (.lvar 0) (linkE objE) 0 (v 7)) (one (natsI n.base)) := rec_set h0 (xlink h (xobj h) (by omega)) x7 (by omega)
  have hbl := base_len (n := n)
  have ho : (SE.cv .u64 (.bin .add objE (l 1))).ev n.σX = (n.k : Int) := by
    show IntKind.u64.wrap (IntKind.i64.wrap (objE.ev n.σX + 1)) = _
    rw [xobj h, i64_small (by omega) (by omega), u64_small (by omega) (by omega)]
    omega
  have ht : ∀ L g, LsRec n.σX L (one (natsI g)) → g.length = 16 + 2 * n.k → LsRec n.σX (.lset (.lset L (l 12) 0 (.cv .u64 (.bin .add objE (l 1)))) (l 13) 0 (v 6)) (one (natsI (n.turn g))) := fun L g hL hg =>
    rec_set (rec_set hL (i := 12) rfl ho (by omega)) (i := 13) rfl x6 (by rw [List.length_set]; omega)
  have htl : ∀ g, g.length = 16 + 2 * n.k → (n.turn g).length = 16 + 2 * n.k := fun g hg => by unfold Nb.turn; rw [List.length_set, List.length_set, hg]
  have hz := fun i hi h5 h6 h12 h13 => at_zero h (i := i) hi h5 h6 h12 h13
  unfold Nb.G1
  have hw := n.way_is
  cases hw' : n.way with
  | A z => exact ht _ _ hb hbl
  | C => exact ht _ _ hb hbl
  | D => exact ht _ _ hb hbl
  | B =>
    refine rec_set (rec_set (rec_set (ht _ _ hb hbl) (i := 14) (y := 0) rfl ?_ (by rw [htl _ hbl]; omega)) (i := 2) (y := 66) rfl rfl (by rw [List.length_set, htl _ hbl]; omega)) (i := 3) (y := 1) rfl ?_ (by rw [List.length_set, List.length_set, htl _ hbl]; omega)
    · show (w (2 : Nat)).ev n.σX = _
      rw [xw 2, hz 2 (by omega) (by omega) (by omega) (by omega) (by omega)]
    · show IntKind.u64.wrap ((w (3 : Nat)).ev n.σX + 1) = _
      rw [xw 3, hz 3 (by omega) (by omega) (by omega) (by omega) (by omega)]
      rfl
  | E =>
    have h4 := rec_set hb (e := l 4) (x := l 1) (i := 4) (y := 1) rfl rfl (by omega)
    exact rec_set (ht _ _ h4 (by rw [List.length_set, hbl])) (i := 4) (y := 0) rfl rfl (by rw [htl _ (by rw [List.length_set, hbl])]; omega)
  | F =>
    rw [hw'] at hw
    have h4 := rec_set hb (e := l 4) (x := l 1) (i := 4) (y := 1) rfl rfl (by omega)
    refine rec_set (rec_set (ht _ _ h4 (by rw [List.length_set, hbl])) (i := 5) (y := 0) rfl ?_ (by rw [htl _ (by rw [List.length_set, hbl])]; omega)) (i := 6) (y := 0) rfl ?_ (by rw [List.length_set, htl _ (by rw [List.length_set, hbl])]; omega)
    · show (w (14 : Nat)).ev n.σX = _
      rw [xw 14, hz 14 (by omega) (by omega) (by omega) (by omega) (by omega)]
    · show IntKind.u64.wrap ((w (6 : Nat)).ev n.σX + 18446744073709551615) = _
      rw [xw 6, at6 h]
      unfold Nb.sh
      rw [z_ne hw.2.1, hw.1]
      rfl
end
end Nb
end Go.Proofs.Ytcbljokbechppaa.Back
