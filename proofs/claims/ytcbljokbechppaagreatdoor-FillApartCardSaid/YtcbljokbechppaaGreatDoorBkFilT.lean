import Derived.Test.YtcbljokbechppaaGreatDoorBkFilY
/-
  wainscotlaw24.FillApart: the readings, and the known steps. No condition.
-/
namespace Go.Proofs.YtcbljokbechppaaGreatDoor.Fil
open Go Ex Mem See
open Go.RowKit
/-! lists of records -/
section
variable {σ : Nat → Int} {g : List (List Int)} {L : SE}
/-- a field of a record is another number -/
theorem setF {e x : SE} {i f : Nat} {y : Int} (h : LsRec σ L g) (he : e.ev σ = (i : Int)) (hx : x.ev σ = y) (hi : i < g.length) (hf : f < ((g[i]?).getD []).length) : LsRec σ (.lset L e f x) (g.set i (((g[i]?).getD []).set f y)) := by
  refine ⟨by simp only [SE.evN, h.len, List.length_set], fun a j hj => ?_⟩
  simp only [SE.evA, he, hx, Int.toNat_natCast]
  rw [h.at_ a j hj, List.getElem?_set]
  by_cases ha : i = a
  · subst ha
    rw [if_pos rfl, if_pos hi, Option.getD_some, List.getElem?_set]
    by_cases hj2 : f = j
    · subst hj2
      rw [if_pos ⟨rfl, rfl⟩, if_pos rfl, if_pos hf]
      rfl
    · rw [if_neg (fun hh => hj2 hh.2.symm), if_neg hj2]
  · rw [if_neg (fun hh => ha hh.1.symm), if_neg ha]
/-- a record more -/
theorem snocR {r : SE} {x : List Int} (h : LsRec σ L g) (hr : ∀ j, j < 64 → r.evA σ 0 j = x[j]?.getD 0) : LsRec σ (.lsnoc L r) (g ++ [x]) := by
  refine ⟨by simp only [SE.evN, h.len, List.length_append, List.length_cons, List.length_nil], fun a j hj => ?_⟩
  simp only [SE.evA, h.len]
  by_cases ha : a = g.length
  · rw [if_pos ha, hr j hj, ha, List.getElem?_append_right (Nat.le_refl _), Nat.sub_self]
    rfl
  · rw [if_neg ha, h.at_ a j hj]
    by_cases hlt : a < g.length
    · rw [List.getElem?_append_left hlt]
    · rw [List.getElem?_eq_none (l := g) (i := a) (by omega), List.getElem?_eq_none (l := g ++ [x]) (i := a) (by rw [List.length_append, List.length_singleton]; omega)]
theorem recE_ev : ∀ (x : List Int) (j : Nat), (recE x).evA σ 0 j = x[j]?.getD 0
  | [], j => by simp [recE, SE.evA]
  | y :: x, 0 => rfl
  | y :: x, j + 1 => by
    show (recE x).evA σ 0 j = _
    rw [recE_ev x j]
    simp
theorem chain_ev : ∀ (M : List (List Int)) {L : SE} {g : List (List Int)}, LsRec σ L g → LsRec σ (M.foldl (fun a r => .lsnoc a (recE r)) L) (g ++ M)
  | [], L, g, h => by rw [List.append_nil]; exact h
  | r :: M, L, g, h => by
    have := chain_ev M (snocR h (r := recE r) (x := r) fun j _ => recE_ev r j)
    rw [List.append_assoc] at this
    exact this
theorem chainE_ev (M : List (List Int)) : LsRec σ (chainE M) M := by
  have := chain_ev (σ := σ) M (L := .rnil) (g := []) ⟨rfl, fun e j _ => by simp [SE.evA]⟩
  exact this
end
/-- all tasks -/
def recsF (k : Nat) (ps : List Ph) : List (List Int) := (List.range ps.length).map fun j => recP k j (ps.getD j .page)
theorem recsF_len (k : Nat) (ps : List Ph) : (recsF k ps).length = ps.length := by simp [recsF]
theorem recsF_at {k : Nat} {ps : List Ph} {j : Nat} {p : Ph} (h : ps[j]? = some p) : (recsF k ps)[j]? = some (recP k j p) := by
  have hj := (List.getElem?_eq_some_iff.1 h).1
  unfold recsF
  rw [List.getElem?_map, List.getElem?_range hj]
  simp only [Option.map_some]
  rw [List.getD_eq_getElem?_getD, h]
  rfl
theorem recsF_set {k : Nat} {ps : List Ph} {j : Nat} {p : Ph} : (recsF k ps).set j (recP k j p) = recsF k (ps.set j p) := by
  apply List.ext_getElem?
  intro i
  rw [List.getElem?_set]
  by_cases hij : j = i
  · subst hij
    rw [if_pos rfl, recsF_len]
    by_cases hj : j < ps.length
    · rw [if_pos hj, recsF_at (p := p) (by rw [List.getElem?_set_self hj])]
    · rw [if_neg hj, List.getElem?_eq_none (by rw [recsF_len, List.length_set]; omega)]
  · rw [if_neg hij]
    by_cases hi : i < ps.length
    · rw [recsF_at (List.getElem?_eq_getElem hi), recsF_at (p := ps[i]) (by rw [List.getElem?_set, if_neg hij, List.getElem?_eq_getElem hi])]
    · rw [List.getElem?_eq_none (by rw [recsF_len]; omega), List.getElem?_eq_none (by rw [recsF_len, List.length_set]; omega)]
theorem recP_len (k j : Nat) (p : Ph) : (recP k j p).length = 17 := by cases p <;> rfl
/-- the cells that are the same always -/
theorem recP_is (k j : Nat) (p : Ph) : recP k j p = [1, (j : Int), (recP k j p).getD 2 0, (recP k j p).getD 3 0, (recP k j p).getD 4 0, (recP k j p).getD 5 0, (recP k j p).getD 6 0, 0, (recP k j p).getD 8 0, (recP k j p).getD 9 0, (recP k j p).getD 10 0, (recP k j p).getD 11 0, (recP k j p).getD 12 0, 0, 0, 0, 0] := by cases p <;> rfl
/-- the law's numbers: processors, slabs on the shelf, as they came in, whose -/
structure Nf where
  n : Nat
  k : Nat
  r0 : Int
  r1 : Int
  whose : List Int
namespace Nf
structure Ok (x : Nf) : Prop where
  n0 : 0 < x.n
  n6 : x.n ≤ 6
  k6 : x.k ≤ 6
def st (x : Nf) (i : Nat) : StF := runF x.n x.k x.whose i
def who (x : Nf) (i : Nat) : Nat := whoF x.n x.whose i
/-- whose turn: the task; what it comes to be -/
def ph (x : Nf) (i : Nat) : Ph := (x.st i).ps.getD (x.who i) .page
def aft (x : Nf) (i : Nat) : Ph × Mf := stepF x.k (x.st i).m (x.who i) (x.ph i)
def r' (x : Nf) (i : Nat) : List Int := recP x.k (x.who i) (x.aft i).1
/-- the numbers in the loop -/
def vT (x : Nf) (i : Nat) (q : Nat) : Int :=
  ([(x.n : Int), 0, 0, 0, 0, cnt0 x.k, i] ++ List.replicate 10 0 ++ [(x.n : Int), ((x.st i).cnt : Int), 0, 76 + 4 * (x.n : Int), (min x.n x.k : Nat)] ++ List.replicate 8 0 ++ [x.r0, x.r1] ++ List.replicate 12 0 ++
    [(x.who i : Int), 0, (if (x.ph i).idle then 1 else 0), x.whose.getD i 0 % (x.n : Int), 0, 0, (x.who i : Int), (x.r' i).getD 2 0, (x.r' i).getD 3 0, (x.r' i).getD 4 0, (x.r' i).getD 5 0, (x.r' i).getD 6 0, (x.r' i).getD 8 0, (x.r' i).getD 9 0, (x.r' i).getD 10 0, (x.r' i).getD 11 0, (x.r' i).getD 12 0, (x.st i).cnt + 1]).getD q 0
def lT (x : Nf) (i : Nat) (q : Nat) : List (List Int) :=
  if q = 1 then recsF x.k (x.st i).ps else if q = 2 then one (natsI (gF x.n x.k (x.st i).m)) else if q = 6 then one (natsI (gF x.n x.k (x.aft i).2)) else if q = 40 then one x.whose else []
def σT (x : Nf) (i : Nat) : Nat → Int := sg (x.vT i) (x.lT i)
section
variable {x : Nf} (h : x.Ok) {i : Nat}
theorem tev {q : Nat} (hq : q < 2048) : (v q).ev (x.σT i) = x.vT i q := by
  show sg (x.vT i) (x.lT i) q = _
  rw [sg_v hq]
theorem t0 : (v 0).ev (x.σT i) = (x.n : Int) := tev (by omega)
theorem t6 : (v 6).ev (x.σT i) = (i : Int) := tev (by omega)
theorem t18 : (v 18).ev (x.σT i) = ((x.st i).cnt : Int) := tev (by omega)
theorem t20 : (v 20).ev (x.σT i) = 76 + 4 * (x.n : Int) := tev (by omega)
theorem t44 : (v 44).ev (x.σT i) = (x.who i : Int) := tev (by omega)
theorem t46 : (v 46).ev (x.σT i) = if (x.ph i).idle then 1 else 0 := tev (by omega)
theorem t47 : (v 47).ev (x.σT i) = x.whose.getD i 0 % (x.n : Int) := tev (by omega)
theorem t61 : (v 61).ev (x.σT i) = ((x.st i).cnt + 1 : Int) := tev (by omega)
include h
theorem who_lt : x.who i < x.n := whoF_lt h.n0 i
theorem inv : InvF x.n x.k (x.st i).m (x.st i).ps := inv_run h.n0 i
theorem ph_at : (x.st i).ps[x.who i]? = some (x.ph i) := by
  have hI := inv h (i := i)
  have := who_lt h (i := i)
  have hl : x.who i < (x.st i).ps.length := by rw [hI.len]; exact this
  unfold Nf.ph
  rw [List.getD_eq_getElem?_getD, List.getElem?_eq_getElem hl]
  rfl
omit h in
theorem cnt0_le (k : Nat) (hk : k ≤ 6) : cnt0 k ≤ 60 := by
  match k, hk with
  | 0, _ => decide
  | 1, _ => decide
  | 2, _ => decide
  | 3, _ => decide
  | 4, _ => decide
  | 5, _ => decide
  | 6, _ => decide
  | k + 7, h => exact absurd h (by omega)
/-- the step's surroundings -/
def sf (x : Nf) (i : Nat) : Sf := ⟨x.n, x.k, (x.st i).m, (x.st i).ps, x.who i, x.ph i, (x.st i).cnt, x.lT i⟩
theorem sf_ok (hi : i ≤ 500) : (sf x i).Ok := by
  refine ⟨h.n0, h.n6, h.k6, ?_, inv h, ph_at h⟩
  have h1 : (x.st i).cnt ≤ cnt0 x.k + i := cnt_run i
  have h2 := cnt0_le x.k h.k6
  show (x.st i).cnt < 2000
  omega
omit h in
/-- a field of a task -/
theorem at1_ev {who : SE} {w f : Nat} {p : Ph} (hw : who.ev (x.σT i) = (w : Int)) (hat : (x.st i).ps[w]? = some p) (hf : f < 17) : (at1 who f).ev (x.σT i) = (recP x.k w p).getD f 0 := by
  show sg (x.vT i) (x.lT i) (lc 1 (who.ev (x.σT i)).toNat f) = _
  rw [hw, Int.toNat_natCast, sg_lc (by omega) (by omega)]
  show (((recsF x.k (x.st i).ps)[w]?).getD [])[f]?.getD 0 = _
  rw [recsF_at hat, Option.getD_some, List.getD_eq_getElem?_getD]
omit h in
theorem lookS_lits {x : Nat → Int} {r : List (Nat × SE)} {m : Nat} : ∀ {a i : Nat}, lookS i (((List.range' a m).map fun j => (j, SE.lit (x j))) ++ r) = if a ≤ i ∧ i < a + m then some (.lit (x i)) else lookS i r := by
  induction m with
  | zero => intro a i; rw [if_neg (by omega)]; rfl
  | succ m ih =>
    intro a i
    rw [List.range'_succ, List.map_cons, List.cons_append]
    by_cases hai : a = i
    · subst hai
      rw [lookS_eq, if_pos (by omega)]
    · rw [lookS_ne hai, ih]
      by_cases h1 : a ≤ i ∧ i < a + (m + 1)
      · rw [if_pos h1, if_pos (by omega)]
      · rw [if_neg h1, if_neg (by omega)]
/-- numbers that a step does not look at, as they are -/
def lits (x : Nf) (i : Nat) : List (Nat × SE) := ((List.range' 0 20).map fun j => (j, .lit (x.vT i j))) ++ (((List.range' 21 29).map fun j => (j, .lit (x.vT i j))) ++ [])
def thX (x : Nf) (i : Nat) (a : FW) : Sub := { v := (a.th 50 6).v ++ lits x i, l := [(6, a.to.g), (0, .lvar 7), (2, .lvar 0)] }
variable {a : FW}
omit h in
theorem lits_at {j : Nat} (hj : j < 50) (h20 : j ≠ 20) : lookS j (lits x i) = some (.lit (x.vT i j)) := by
  unfold lits
  rw [lookS_lits]
  by_cases h1 : j < 20
  · rw [if_pos (by omega)]
  · rw [if_neg (by omega), lookS_lits, if_pos (by omega)]
omit h in
theorem lits_20 : lookS 20 (lits x i) = none := by
  unfold lits
  rw [lookS_lits, if_neg (by omega), lookS_lits, if_neg (by omega)]
  rfl
omit h in
/-- what persists in a step's reading -/
theorem thX_at {j : Nat} (hj : j < 50) : (thX x i a).vAt j = match lookS j (lits x i) with
    | some e => e
    | none => .var j := by
  unfold thX Sub.vAt
  simp only [FW.th, List.cons_append, List.nil_append]
  rw [lookS_ne (by omega), lookS_ne (by omega), lookS_ne (by omega), lookS_ne (by omega), lookS_ne (by omega), lookS_ne (by omega), lookS_ne (by omega), lookS_ne (by omega), lookS_ne (by omega), lookS_ne (by omega), lookS_ne (by omega), lookS_ne (by omega)]
  cases lookS j (lits x i) <;> rfl
/-- what is known behind a step, as it is in the loop's reading -/
theorem agree_step (hi : i ≤ 500) (he : (x.ph i).idle = false) {ro : Nat → Option (Option Addr × Nat × Nat)} (hro : ∀ i p, ro i = some p → i = 40) :
    AgreeD (thX x i (sf x i).way) ⟨62, 7, 0, rel⟩ ro (sf x i).σS Ωn (x.σT i) Ωn := by
  have hT := Sf.to_ok (sf_ok h hi) he
  have hr' : (sf x i).r' = x.r' i := rfl
  refine agree_sgR (fun j p hp => by obtain rfl := hro j p hp; exact ⟨by omega, LsRec.var' (by omega) rfl⟩) (by decide) (by decide) rfl (fun j hj => ?_) fun q hq => ?_
  · have hj : j < 62 := hj
    by_cases h50 : j < 50
    · rw [thX_at h50]
      by_cases h20 : j = 20
      · subst h20
        rw [lits_20]
        exact (Sf.x20 (x := sf x i)).symm.trans rfl |>.symm ▸ (by show x.vT i 20 = _; rw [show (76 + 4 * (sf x i).n : Nat) = 76 + 4 * x.n from rfl]; show (76 : Int) + 4 * (x.n : Int) = _; omega)
      · rw [lits_at h50 h20]
        rfl
    · match j, h50, hj with
      | 50, _, _ => exact (Sf.x1 (x := sf x i)).symm
      | 51, _, _ => exact hT.pc.symm
      | 52, _, _ => exact hT.en.symm
      | 53, _, _ => exact hT.want.symm
      | 54, _, _ => exact hT.slab.symm
      | 55, _, _ => exact hT.obj.symm
      | 56, _, _ => exact hT.t.symm
      | 57, _, _ => exact hT.f.symm
      | 58, _, _ => exact hT.k.symm
      | 59, _, _ => exact hT.n.symm
      | 60, _, _ => exact hT.last.symm
      | 61, _, _ =>
        show ((x.st i).cnt + 1 : Int) = IntKind.i64.wrap ((v 5).ev (sf x i).σS + 1)
        have hc := (sf_ok h hi).cnt
        rw [Sf.x5, i64_small (by omega) (by omega)]
        rfl
      | j + 62, _, hj => exact absurd hj (by omega)
  · have hq : q < 7 := hq
    match q, hq with
    | 0, _ => exact LsRec.var' (q := 7) (by omega) rfl
    | 1, _ => exact LsRec.var' (q := 1) (by omega) rfl
    | 2, _ => exact LsRec.var' (q := 0) (by omega) rfl
    | 3, _ => exact LsRec.var' (q := 3) (by omega) rfl
    | 4, _ => exact LsRec.var' (q := 4) (by omega) rfl
    | 5, _ => exact LsRec.var' (q := 5) (by omega) rfl
    | 6, _ => exact hT.g
    | q + 7, hq => exact absurd hq (by omega)
def th0 (who : SE) : Sub := { v := [(1, at1 who 1), (6, at1 who 2), (7, at1 who 3), (12, at1 who 4), (2, at1 who 5), (15, at1 who 6), (14, at1 who 8), (8, at1 who 9), (9, at1 who 10), (10, at1 who 11), (11, at1 who 12), (5, v 18), (17, l 0), (18, l 0)], l := [(0, .lvar 2)] }
/-- what a step sees, out of the loop's reading -/
theorem agree_th0 {who : SE} (hw : who.ev (x.σT i) = (x.who i : Int)) {ro : Nat → Option (Option Addr × Nat × Nat)} (hro : ∀ i p, ro i = some p → i = 40) :
    AgreeD (th0 who) ⟨21, 1, 0, 3004⟩ ro (x.σT i) Ωn (sf x i).σS Ωn := by
  have hat := ph_at h (i := i)
  have f : ∀ {f : Nat}, f < 17 → (at1 who f).ev (x.σT i) = (recP x.k (x.who i) (x.ph i)).getD f 0 := fun hf => at1_ev hw hat hf
  have hr : (sf x i).r = recP x.k (x.who i) (x.ph i) := rfl
  have hr2 := recP_is x.k (x.who i) (x.ph i)
  refine agree_sgR (fun j p hp => by obtain rfl := hro j p hp; exact ⟨by omega, LsRec.var' (by omega) rfl⟩) (by decide) (by decide) rfl (fun j hj => ?_) fun q hq => ?_
  · have hj : j < 21 := hj
    have z : ∀ {q : Nat}, q < 2048 → x.vT i q = 0 → (0 : Int) = (v q).ev (x.σT i) := fun hq h0 => by rw [tev hq, h0]
    match j, hj with
    | 0, _ => exact t0.symm
    | 1, _ =>
      show (x.who i : Int) = (at1 who 1).ev (x.σT i)
      rw [f (by omega), hr2]
      rfl
    | 2, _ => exact (f (f := 5) (by omega)).symm
    | 3, _ => exact z (q := 3) (by omega) rfl
    | 4, _ => exact z (q := 4) (by omega) rfl
    | 5, _ => exact t18.symm
    | 6, _ => exact (f (f := 2) (by omega)).symm
    | 7, _ => exact (f (f := 3) (by omega)).symm
    | 8, _ => exact (f (f := 9) (by omega)).symm
    | 9, _ => exact (f (f := 10) (by omega)).symm
    | 10, _ => exact (f (f := 11) (by omega)).symm
    | 11, _ => exact (f (f := 12) (by omega)).symm
    | 12, _ => exact (f (f := 4) (by omega)).symm
    | 13, _ => exact z (q := 13) (by omega) rfl
    | 14, _ =>
      show (0 : Int) = (at1 who 8).ev (x.σT i)
      rw [f (by omega)]
      cases x.ph i <;> rfl
    | 15, _ =>
      show (0 : Int) = (at1 who 6).ev (x.σT i)
      rw [f (by omega)]
      cases x.ph i <;> rfl
    | 16, _ => exact z (q := 16) (by omega) rfl
    | 17, _ => rfl
    | 18, _ => rfl
    | 19, _ => exact z (q := 19) (by omega) rfl
    | 20, _ => exact t20.symm
    | j + 21, hj => exact absurd hj (by omega)
  · obtain rfl : q = 0 := by have : q < 1 := hq; omega
    exact LsRec.var' (q := 2) (by omega) rfl
omit h in
theorem end_run (h1 : a ≠ .idleF) (h2 : a ≠ .idleP) : a.end_ = kcS0.leaf (a.th 21 1) := by
  cases a <;> first | rfl | exact absurd rfl h1 | exact absurd rfl h2
omit h in
theorem end_idle (h1 : a = .idleF ∨ a = .idleP) : a.end_ = kcI0.leaf {} := by
  rcases h1 with rfl | rfl <;> rfl
omit h in
theorem way_run {y : Sf} (hi : y.p.idle = false) : y.way ≠ .idleF ∧ y.way ≠ .idleP := by
  cases hp : y.p with
  | p34 => by_cases h0 : y.m.lk = 0 <;> simp [Sf.way, hp, h0]
  | p35 => by_cases h0 : y.m.tk < y.k <;> simp [Sf.way, hp, h0]
  | page => rw [hp] at hi; cases hi
  | fin s => rw [hp] at hi; cases hi
  | _ => simp [Sf.way, hp]
omit h in
theorem way_idle {y : Sf} (hi : y.p.idle = true) : y.way = .idleF ∨ y.way = .idleP := by
  unfold Sf.way
  cases hp : y.p <;> rw [hp] at hi <;> first | (cases hi; done) | exact .inl rfl | exact .inr rfl
variable {rks : List (Nat × CK)} {ro : Nat → Option (Option Addr × Nat × Nat)} (hro : ∀ i p, ro i = some p → i = 40)
include hro
theorem kc_stepW (hi : i ≤ 500) {who : SE} {w : Nat} (hw : who.ev (x.σT i) = (w : Int)) (hwn : w < x.n) (fs) (ok : ∀ f ∈ fs, f.1.ev (x.σT i) = f.2) : @KcOk (nums FillTab.gs rks ro (x.σT i) Ωn fs ok) Tryz.prog (kcStepW who) := by
  by_cases hc : w = x.who i ∧ (x.ph i).idle = false
  · obtain ⟨rfl, he⟩ := hc
    have hS := sf_ok h hi
    obtain ⟨n1, n2⟩ := way_run (y := sf x i) he
    have hrun := runFW rks (sf x i).way
    rw [end_run n1 n2] at hrun
    have e1 : (kcStepW who).pre = subH (th0 who) TF.heap := by kernel_rfl
    have e2 : (kcStepW who).args = AV.subs (th0 who) argF := by kernel_rfl
    have e3 : (kcStepW who).post.map (·.1) = TF.heap.map (·.1) := by kernel_rfl
    have e4 : kcForm (kcStepW who) TF.heap ⟨21, 1, 0, 3004⟩ argF = true := by kernel_rfl
    refine kc_tree (σ1 := (sf x i).σS) (Ω1 := Ωn) (A := argF) (pre := TF.heap) (B0 := ⟨21, 1, 0, 3004⟩) (θ0 := th0 who) (kcs := (sf x i).way.kcs) (lns := []) (n := 30)
      (k := kcStepW who) (d := kcS0.leaf ((sf x i).way.th 21 1)) (fs1 := (sf x i).way.fx) mixed fn_step e1 e2 rfl e3 e4 (Sf.kcs_step hS) lnAll_nil (Sf.facts_X hS) hrun (agree_th0 h hw hro) ?_ fs ok
    exact ⟨thX x i (sf x i).way, ⟨62, 7, 0, rel⟩, by kernel_rfl, by kernel_rfl, by kernel_rfl, agree_step h hi he hro⟩
  · intro hcs
    exfalso
    apply hc
    have h1 : (Cnd.eq who (v 44)).ev (x.σT i) = true := hcs (.eq who (v 44), true) (by unfold kcStepW kcStep; simp)
    have h2 : (Cnd.eq (v 46) (l 0)).ev (x.σT i) = true := hcs (.eq (v 46) (l 0), true) (by unfold kcStepW kcStep; simp)
    have h1 : (who.ev (x.σT i) == (v 44).ev (x.σT i)) = true := h1
    have h2 : ((v 46).ev (x.σT i) == 0) = true := h2
    rw [hw, t44] at h1
    rw [t46] at h2
    have h1 := eq_of_beq h1
    have h2 := eq_of_beq h2
    refine ⟨by omega, ?_⟩
    cases hid : (x.ph i).idle with
    | false => rfl
    | true => rw [hid] at h2; simp at h2
def thD (x : Nf) (i : Nat) : Sub := { v := (18, v 5) :: lits x i, l := [(2, .lvar 0), (0, .lvar 7)] }
omit h in
theorem agree_idle : AgreeD (thD x i) ⟨21, 3, 0, rel⟩ ro (sf x i).σS Ωn (x.σT i) Ωn := by
  refine agree_sgR (fun j p hp => by obtain rfl := hro j p hp; exact ⟨by omega, LsRec.var' (by omega) rfl⟩) (by decide) (by decide) rfl (fun j hj => ?_) fun q hq => ?_
  · have hj : j < 21 := hj
    by_cases h18 : j = 18
    · subst h18
      exact (Sf.x5 (x := sf x i)).symm
    · unfold thD Sub.vAt
      rw [lookS_ne (fun h => h18 h.symm)]
      by_cases h20 : j = 20
      · subst h20
        rw [lits_20]
        exact ((Sf.ev_v (x := sf x i) (i := 20) (by omega))).symm
      · rw [lits_at (by omega) h20]
        rfl
  · have hq : q < 3 := hq
    match q, hq with
    | 0, _ => exact LsRec.var' (q := 7) (by omega) rfl
    | 1, _ => exact LsRec.var' (q := 1) (by omega) rfl
    | 2, _ => exact LsRec.var' (q := 0) (by omega) rfl
    | q + 3, hq => exact absurd hq (by omega)
theorem kc_idleW (hi : i ≤ 500) {who : SE} {w : Nat} (hw : who.ev (x.σT i) = (w : Int)) (hwn : w < x.n) (fs) (ok : ∀ f ∈ fs, f.1.ev (x.σT i) = f.2) : @KcOk (nums FillTab.gs rks ro (x.σT i) Ωn fs ok) Tryz.prog (kcIdleW who) := by
  by_cases hc : w = x.who i ∧ (x.ph i).idle = true
  · obtain ⟨rfl, he⟩ := hc
    have hS := sf_ok h hi
    have hd := way_idle (y := sf x i) he
    have hrun := runFW rks (sf x i).way
    rw [end_idle hd] at hrun
    have e1 : (kcIdleW who).pre = subH (th0 who) TF.heap := by kernel_rfl
    have e2 : (kcIdleW who).args = AV.subs (th0 who) argF := by kernel_rfl
    have e3 : (kcIdleW who).post.map (·.1) = TF.heap.map (·.1) := by kernel_rfl
    have e4 : kcForm (kcIdleW who) TF.heap ⟨21, 1, 0, 3004⟩ argF = true := by kernel_rfl
    refine kc_tree (σ1 := (sf x i).σS) (Ω1 := Ωn) (A := argF) (pre := TF.heap) (B0 := ⟨21, 1, 0, 3004⟩) (θ0 := th0 who) (kcs := (sf x i).way.kcs) (lns := []) (n := 30)
      (k := kcIdleW who) (d := kcI0.leaf {}) (fs1 := (sf x i).way.fx) mixed fn_step e1 e2 rfl e3 e4 (Sf.kcs_step hS) lnAll_nil (Sf.facts_X hS) hrun (agree_th0 h hw hro) ?_ fs ok
    exact ⟨thD x i, ⟨21, 3, 0, rel⟩, by kernel_rfl, by kernel_rfl, by kernel_rfl, agree_idle hro⟩
  · intro hcs
    exfalso
    apply hc
    have h1 : (Cnd.eq who (v 44)).ev (x.σT i) = true := hcs (.eq who (v 44), true) (by unfold kcIdleW kcIdle; simp)
    have h2 : (Cnd.eq (v 46) (l 0)).ev (x.σT i) = false := hcs (.eq (v 46) (l 0), false) (by unfold kcIdleW kcIdle; simp)
    have h1 : (who.ev (x.σT i) == (v 44).ev (x.σT i)) = true := h1
    have h2 : ((v 46).ev (x.σT i) == 0) = false := h2
    rw [hw, t44] at h1
    rw [t46] at h2
    have h1 := eq_of_beq h1
    have h2 := beq_eq_false_iff_ne.1 h2
    refine ⟨by omega, ?_⟩
    cases hid : (x.ph i).idle with
    | true => rfl
    | false => rw [hid] at h2; simp at h2
end
end Nf
end Go.Proofs.YtcbljokbechppaaGreatDoor.Fil
