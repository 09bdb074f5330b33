/-
  Texts of this claim, joined. No condition.
-/
import Derived.Test.YtfgomgodfcdijaaGreatDoorKn12
import Derived.Test.YtfgomgodfcdijaaGreatDoorKn13
import Derived.RangeFuncNested
import Derived.RangeFuncBound
import Derived.RangeFuncCalls
import Derived.RangeFuncLeaves
import Derived.RangeFuncWrites
import Derived.Shelf.Abstract
import Derived.Shelf.RegionOpen
import Derived.WalkKit
import Derived.OwnWalkIn
import Derived.TacticsInMore
import Derived.LoopNIn
import Derived.LoopIn
/-
  Tables of pages, in plain Lean: the blocks that frame.blocks hands on, and when a table may be.
-/
namespace Go.Proofs.YtfgomgodfcdijaaGreatDoor
open Go.RowKit

/-- a page: kind, order, cache -/
def iOf : Value → Int
  | .int _ n => n
  | _ => 0
abbrev Pg := Int × Int × Int
def pgIn : Pg := (1, 0, 0)
def pgSize (p : Pg) : Nat := 2 ^ p.2.1.toNat
def pgHead (p : Pg) : Bool := decide (0 ≤ p.2.1 ∧ p.2.1 ≤ 10 ∧ (p.1 = 0 ∧ p.2.2 = 0 ∨ p.1 = 2 ∧ 0 ≤ p.2.2 ∧ p.2.2 ≤ 8))
theorem pgSize_pos (p : Pg) : 1 ≤ pgSize p := Nat.one_le_two_pow
/-- may a block begin here? -/
def pgOk (L : List Pg) (i : Nat) (p : Pg) : Bool := pgHead p && decide (i % pgSize p = 0) && decide (i + pgSize p ≤ L.length) && ((L.drop (i + 1)).take (pgSize p - 1)).all (· == pgIn)

def pgYields (L : List Pg) : Nat → Nat → List (Int × Pg)
  | 0, _ => []
  | f + 1, i => match L[i]? with
    | none => []
    | some p => if pgOk L i p then ((i : Int), p) :: pgYields L f (i + pgSize p) else [(-1, p)]
theorem pgYields_past (L : List Pg) : ∀ (f i : Nat), L.length ≤ i → pgYields L f i = []
  | 0, _, _ => rfl
  | f + 1, i, h => by
    unfold pgYields
    rw [List.getElem?_eq_none h]
theorem pgYields_fuel (L : List Pg) : ∀ (f g i : Nat), L.length ≤ i + f → L.length ≤ i + g → pgYields L f i = pgYields L g i
  | 0, g, i, h, _ => by rw [pgYields_past L g i (by omega)]; rfl
  | f + 1, 0, i, _, h => by rw [pgYields_past L (f + 1) i (by omega)]; rfl
  | f + 1, g + 1, i, h1, h2 => by
    unfold pgYields
    cases L[i]? with
    | none => rfl
    | some p =>
      have := pgSize_pos p
      simp only
      rw [pgYields_fuel L f g (i + pgSize p) (by omega) (by omega)]
/-- what the blocks are from a place on -/
def pgFrom (L : List Pg) (i : Nat) : List (Int × Pg) := pgYields L (L.length - i) i
theorem pgFrom_end {L : List Pg} {i : Nat} (h : L.length ≤ i) : pgFrom L i = [] := pgYields_past L _ i h
theorem pgFrom_ok {L : List Pg} {i : Nat} {p : Pg} (h : L[i]? = some p) (ho : pgOk L i p = true) : pgFrom L i = ((i : Int), p) :: pgFrom L (i + pgSize p) := by
  have hi := (List.getElem?_eq_some_iff.1 h).1
  have := pgSize_pos p
  unfold pgFrom
  obtain ⟨k, hk⟩ : ∃ k, L.length - i = k + 1 := ⟨L.length - i - 1, by omega⟩
  rw [hk]
  show (match L[i]? with | none => [] | some p => if pgOk L i p then ((i : Int), p) :: pgYields L k (i + pgSize p) else [(-1, p)]) = _
  rw [h]
  simp only [ho, if_true]
  rw [pgYields_fuel L k (L.length - (i + pgSize p)) _ (by omega) (by omega)]
theorem pgFrom_no {L : List Pg} {i : Nat} {p : Pg} (h : L[i]? = some p) (ho : pgOk L i p = false) : pgFrom L i = [(-1, p)] := by
  have hi := (List.getElem?_eq_some_iff.1 h).1
  unfold pgFrom
  obtain ⟨k, hk⟩ : ∃ k, L.length - i = k + 1 := ⟨L.length - i - 1, by omega⟩
  rw [hk]
  show (match L[i]? with | none => [] | some p => if pgOk L i p then ((i : Int), p) :: pgYields L k (i + pgSize p) else [(-1, p)]) = _
  rw [h]
  simp [ho]

/-- a row of blocks from a place on: each may be a head, and lies at a multiple of its size -/
def Row : Nat → List Pg → Prop
  | _, [] => True
  | i, p :: bs => pgHead p = true ∧ i % pgSize p = 0 ∧ Row (i + pgSize p) bs
/-- .. laid as pages -/
def lay : List Pg → List Pg
  | [] => []
  | p :: bs => p :: List.replicate (pgSize p - 1) pgIn ++ lay bs
/-- .. with their places -/
def places : Nat → List Pg → List (Int × Pg)
  | _, [] => []
  | i, p :: bs => ((i : Int), p) :: places (i + pgSize p) bs
theorem lay_cons_len (p : Pg) (bs : List Pg) : (lay (p :: bs)).length = pgSize p + (lay bs).length := by
  have := pgSize_pos p
  simp [lay]
  omega
/-- a table of blocks hands on its blocks -/
theorem row_from : ∀ (bs : List Pg) (A : List Pg), Row A.length bs → pgFrom (A ++ lay bs) A.length = places A.length bs
  | [], A, _ => by rw [pgFrom_end (by simp [lay])]; rfl
  | p :: bs, A, h => by
    have h1 := pgSize_pos p
    have hl := lay_cons_len p bs
    have hp : (A ++ lay (p :: bs))[A.length]? = some p := by simp [lay]
    have hok : pgOk (A ++ lay (p :: bs)) A.length p = true := by
      have hd : (A ++ lay (p :: bs)).drop (A.length + 1) = List.replicate (pgSize p - 1) pgIn ++ lay bs := by
        rw [List.drop_append]
        simp [lay]
      unfold pgOk
      rw [hd, List.take_append_of_le_length (by simp), List.take_of_length_le (by simp), h.1, decide_eq_true h.2.1, decide_eq_true (by rw [List.length_append]; omega)]
      simp
    rw [pgFrom_ok hp hok]
    have e : A ++ lay (p :: bs) = (A ++ p :: List.replicate (pgSize p - 1) pgIn) ++ lay bs := by simp [lay]
    have el : (A ++ p :: List.replicate (pgSize p - 1) pgIn).length = A.length + pgSize p := by simp; omega
    have := row_from bs (A ++ p :: List.replicate (pgSize p - 1) pgIn) (by rw [el]; exact h.2.2)
    rw [el] at this
    rw [e, this]
    rfl
/-- .. and where no place is told that is none, the table is one of blocks -/
theorem from_row (L : List Pg) : ∀ (n i : Nat), L.length ≤ i + n → i ≤ L.length → (∀ x ∈ pgFrom L i, 0 ≤ x.1) → ∃ bs, L.drop i = lay bs ∧ Row i bs
  | 0, i, h, h2, _ => ⟨[], by simp [lay]; omega, trivial⟩
  | n + 1, i, h, h2, hx => by
    by_cases hi : i < L.length
    · obtain ⟨p, hp⟩ : ∃ p, L[i]? = some p := ⟨_, List.getElem?_eq_getElem hi⟩
      have h1 := pgSize_pos p
      cases ho : pgOk L i p with
      | false =>
        rw [pgFrom_no hp ho] at hx
        have := hx _ List.mem_cons_self
        simp at this
      | true =>
        rw [pgFrom_ok hp ho] at hx
        have ho' := ho
        unfold pgOk at ho'
        simp only [Bool.and_eq_true, decide_eq_true_eq, List.all_eq_true, beq_iff_eq] at ho'
        obtain ⟨⟨⟨a1, a2⟩, a3⟩, a4⟩ := ho'
        obtain ⟨bs, hb, hr⟩ := from_row L n (i + pgSize p) (by omega) a3 (fun x hx' => hx x (List.mem_cons_of_mem _ hx'))
        refine ⟨p :: bs, ?_, a1, a2, hr⟩
        have e1 : L.drop i = p :: L.drop (i + 1) := by
          rw [List.drop_eq_getElem_cons hi]
          rw [List.getElem?_eq_getElem hi] at hp
          rw [Option.some.inj hp]
        have e2 : (L.drop (i + 1)).take (pgSize p - 1) = List.replicate (pgSize p - 1) pgIn := by
          rw [List.eq_replicate_iff]
          refine ⟨by rw [List.length_take, List.length_drop]; omega, a4⟩
        have e3 : L.drop (i + 1) = List.replicate (pgSize p - 1) pgIn ++ lay bs := by
          rw [← e2, ← hb, ← List.take_append_drop (pgSize p - 1) (L.drop (i + 1)), List.drop_drop]
          rw [show i + 1 + (pgSize p - 1) = i + pgSize p from by omega]
          rw [List.take_append_of_le_length (by rw [List.length_take, List.length_drop]; omega), List.take_take, Nat.min_self]
        rw [e1, e3]
        rfl
    · exact ⟨[], by simp [lay]; omega, trivial⟩
/-- a table that may be -/
def Tab (L : List Pg) (bs : List Pg) : Prop := L = lay bs ∧ Row 0 bs
theorem tab_iff (L : List Pg) : (∃ bs, Tab L bs) ↔ ∀ x ∈ pgFrom L 0, 0 ≤ x.1 := by
  constructor
  · rintro ⟨bs, rfl, hr⟩
    have := row_from bs [] hr
    simp only [List.nil_append, List.length_nil] at this
    rw [this]
    have hpl : ∀ (bs : List Pg) (i : Nat), ∀ x ∈ places i bs, 0 ≤ x.1 := by
      intro bs
      induction bs with
      | nil => intro i x hx; simp [places] at hx
      | cons p bs ih =>
        intro i x hx
        rw [places, List.mem_cons] at hx
        rcases hx with rfl | hx
        · simp
        · exact ih _ x hx
    exact hpl bs 0
  · intro h
    obtain ⟨bs, hb, hr⟩ := from_row L L.length 0 (by omega) (by omega) h
    exact ⟨bs, by rw [← hb]; rfl, hr⟩
theorem tab_from {L bs : List Pg} (h : Tab L bs) : pgFrom L 0 = places 0 bs := by
  obtain ⟨rfl, hr⟩ := h
  have := row_from bs [] hr
  simpa using this
end Go.Proofs.YtfgomgodfcdijaaGreatDoor

/-
  Contracts: frame.headed, the test of a page that is inside, and whether a slice of pages has one that is not.
-/
namespace Go.Proofs.YtfgomgodfcdijaaGreatDoor
open Go.RowKit
attribute [local go_sem ↓] Go.wp_at_zero Go.wp_at_succ
/-- a page as a value -/
def pgVal (p : Pg) : Value := .agg #[.int .i64 p.1, .int .i64 p.2.1, .int .i64 p.2.2]
section
variable {W : World} {m : List (Nat × Obj)} {w : World}
set_option maxHeartbeats 1000000 in
theorem headed_spec (h : Own W m w) (k o c : Int) :
    Calls Tryz.prog 256 #[.agg #[.int .i64 k, .int .i64 o, .int .i64 c]] w fun e w' => e = .returned (.bool (pgHead (k, o, c))) ∧ Own W m w' := by
  have h0 := h.alloc (.cells #[.int .i64 k, .int .i64 o, .int .i64 c] 191)
  go_enter Tryz.func256, Tryz.ntmps256
  go_wp2_with fail
  all_goals go_ret
  all_goals refine ⟨?_, h0⟩
  all_goals simp only [beq_iff_eq, beq_eq_false_iff_ne, ne_eq] at *
  all_goals
    first
      | exact (congrArg (fun b => Ending.returned (Value.bool b)) (show pgHead (k, o, c) = false from decide_eq_false (by simp only; omega))).symm
      | exact (congrArg (fun b => Ending.returned (Value.bool b)) (show pgHead (k, o, c) = (c == 0) from Bool.eq_iff_iff.2 (by simp [pgHead]; omega))).symm
      | exact (congrArg (fun b => Ending.returned (Value.bool b)) (show pgHead (k, o, c) = decide (c ≤ 8) from Bool.eq_iff_iff.2 (by simp [pgHead]; omega))).symm
      | exact (congrArg (fun b => Ending.returned (Value.bool b)) (show pgHead (k, o, c) = (decide (0 ≤ c) && decide (c ≤ 8)) from Bool.eq_iff_iff.2 (by simp [pgHead]; omega))).symm
      | trace_state
set_option maxHeartbeats 1000000 in
theorem inside_spec (h : Own W m w) (k o c : Int) :
    Calls Tryz.prog 258 #[.agg #[.int .i64 k, .int .i64 o, .int .i64 c]] w fun e w' => e = .returned (.bool (!decide (((k, o, c) : Pg) = pgIn))) ∧ Own W m w' := by
  have h0 := h.alloc (.cells #[.int .i64 k, .int .i64 o, .int .i64 c] 191)
  go_enter Tryz.func258, Tryz.ntmps258
  go_wp2_with fail
  all_goals go_ret
  all_goals refine ⟨?_, h.alloc _⟩
  all_goals simp_all [pgIn]
end
/-- pages as numbers, one behind another -/
def flat3 : List Pg → List Int
  | [] => []
  | p :: l => p.1 :: p.2.1 :: p.2.2 :: flat3 l
theorem flat3_len : ∀ l, (flat3 l).length = l.length * 3
  | [] => rfl
  | p :: l => by simp [flat3, flat3_len l]; omega
theorem flat3_get : ∀ {l : List Pg} {j : Nat} {p : Pg}, l[j]? = some p → (flat3 l)[j * 3]? = some p.1 ∧ (flat3 l)[j * 3 + 1]? = some p.2.1 ∧ (flat3 l)[j * 3 + 2]? = some p.2.2
  | [], j, p, h => by simp at h
  | q :: l, 0, p, h => by
    simp at h
    subst h
    simp [flat3]
  | q :: l, j + 1, p, h => by
    have := flat3_get (l := l) (j := j) (p := p) (by simpa using h)
    rw [show (j + 1) * 3 = j * 3 + 1 + 1 + 1 from by omega]
    simpa [flat3] using this
/-- from a place on memory reads as pages -/
def PgAt (w : World) (g o : Nat) (l : List Pg) : Prop := g < w.heap.size ∧ ∀ (j : Nat) (p : Pg), l[j]? = some p →
  w.cell? ⟨g, o + j * 3, none⟩ = some (.int .i64 p.1) ∧ w.cell? ⟨g, o + j * 3 + 1, none⟩ = some (.int .i64 p.2.1) ∧ w.cell? ⟨g, o + j * 3 + 2, none⟩ = some (.int .i64 p.2.2)
theorem PgAt.own {W w : World} {g o : Nat} {l : List Pg} {m : List (Nat × Obj)} (h : PgAt W g o l) (hO : Own W m w) : PgAt w g o l := by
  refine ⟨Nat.lt_of_lt_of_le h.1 hO.size_le, fun j p hp => ?_⟩
  obtain ⟨h1, h2, h3⟩ := h.2 j p hp
  exact ⟨(hO.old (by exact h.1)).trans h1, (hO.old (by exact h.1)).trans h2, (hO.old (by exact h.1)).trans h3⟩
def pgIdx (l : List Pg) : Int := match l.findIdx? (fun p => decide (p ≠ pgIn)) with | some i => i | none => -1
theorem pgIdx_yes {l : List Pg} {k : Nat} {p : Pg} (hk : l[k]? = some p) (hp : p ≠ pgIn) (h : ∀ j, j < k → l[j]? = some pgIn) : pgIdx l = k := by
  have : l.findIdx? (fun p => decide (p ≠ pgIn)) = some k := by
    rw [List.findIdx?_eq_some_iff_getElem]
    obtain ⟨hlt, he⟩ := List.getElem?_eq_some_iff.1 hk
    refine ⟨hlt, by simp [he, hp], fun j hj => ?_⟩
    have := h j hj
    rw [List.getElem?_eq_getElem (by omega)] at this
    simp [Option.some.inj this]
  unfold pgIdx
  rw [this]
theorem pgIdx_no {l : List Pg} (h : ∀ j, j < l.length → l[j]? = some pgIn) : pgIdx l = -1 := by
  have : l.findIdx? (fun p => decide (p ≠ pgIn)) = none := by
    rw [List.findIdx?_eq_none_iff]
    intro x hx
    obtain ⟨j, hj, rfl⟩ := List.getElem_of_mem hx
    have := h j hj
    rw [List.getElem?_eq_getElem hj] at this
    simp [Option.some.inj this]
  unfold pgIdx
  rw [this]
theorem pgIdx_all (l : List Pg) : decide (0 ≤ pgIdx l) = !l.all (· == pgIn) := by
  unfold pgIdx
  cases h : l.findIdx? (fun p => decide (p ≠ pgIn)) with
  | none =>
    rw [List.findIdx?_eq_none_iff] at h
    have : l.all (· == pgIn) = true := by
      rw [List.all_eq_true]
      intro x hx
      have := h x hx
      simpa using this
    rw [this]; rfl
  | some k =>
    rw [List.findIdx?_eq_some_iff_getElem] at h
    obtain ⟨hlt, he, _⟩ := h
    have : l.all (· == pgIn) = false := by
      rw [List.all_eq_false]
      exact ⟨_, List.getElem_mem hlt, by simpa using he⟩
    rw [this]; simp
set_option maxHeartbeats 1000000 in
theorem indexFunc_spec {w : World} {g o : Nat} {c : Nat} {l : List Pg} (hs : PgAt w g o l) (hl : l.length ≤ 60000) :
    Calls Tryz.prog 312 #[.slice (some ⟨g, o, none⟩) l.length c, .func (.func 258) #[] #[]] w fun e w' => e = .returned (.int .i64 (pgIdx l)) ∧ Own w [] w' := by
  go_enter Tryz.func312, Tryz.ntmps312
  go_wp2_with fail
  go_loopw [8] (fun k wr => ∃ i : Nat, i ≤ l.length ∧ k = .int .i64 i ∧ (∀ j, j < i → l[j]? = some pgIn) ∧ Own w [] wr) (fun k _ => l.length - (iOf k).toNat)
  case atStart => exact ⟨0, Nat.zero_le _, rfl, fun j hj => absurd hj (by omega), Own.self w⟩
  case round =>
    obtain ⟨i, hi, rfl, hno, hr⟩ := hrel
    have HN := Lib.hid hno
    clear hno
    by_cases hlt : i < l.length
    · obtain ⟨p, hp⟩ : ∃ p, l[i]? = some p := ⟨_, List.getElem?_eq_getElem hlt⟩
      obtain ⟨q0, q1, q2⟩ := (hs.own hr).2 i p hp
      have HP := Lib.hid hp
      obtain ⟨p0, p1, p2⟩ := p
      simp only at q0 q1 q2
      clear hp
      by_cases hin : ((p0, p1, p2) : Pg) = pgIn
      · go_wp2_with (go_at_call 258; refine (inside_spec hr p0 p1 p2).mono ?_; rintro e w' ⟨rfl, h1⟩; rw [decide_eq_true hin])
        go_roundw
        case rel =>
          refine ⟨i + 1, by omega, by go_num, fun j hj => ?_, h1⟩
          by_cases hji : j < i
          · exact HN.out j hji
          · obtain rfl : j = i := by omega
            rw [HP.out, hin]
        case measure => simp [iOf]; omega
      · go_wp2_with (go_at_call 258; refine (inside_spec hr p0 p1 p2).mono ?_; rintro e w' ⟨rfl, h1⟩; rw [decide_eq_false hin])
        go_ret
        exact ⟨by rw [pgIdx_yes HP.out hin HN.out]; rfl, h1⟩
    · obtain rfl : i = l.length := by omega
      go_wp2_with fail
      go_ret
      exact ⟨by rw [pgIdx_no HN.out]; rfl, hr⟩
theorem containsFunc_spec {w : World} {g o : Nat} {c : Nat} {l : List Pg} (hs : PgAt w g o l) (hl : l.length ≤ 60000) :
    Calls Tryz.prog 257 #[.slice (some ⟨g, o, none⟩) l.length c, .func (.func 258) #[] #[]] w fun e w' => e = .returned (.bool (!l.all (· == pgIn))) ∧ Own w [] w' := by
  have HM := Lib.hid (pgIdx_all l)
  go_enter Tryz.func257, Tryz.ntmps257
  go_wp2_with (go_at_call 312; refine (indexFunc_spec hs hl).mono ?_; rintro e w' ⟨rfl, h1⟩)
  go_ret
  exact ⟨by rw [← HM.out]; rfl, h1⟩
theorem containsFunc_at {w : World} {g o : Nat} {c n : Nat} {l : List Pg} (hs : PgAt w g o l) (hn : n = l.length) (hl : n ≤ 60000) :
    Calls Tryz.prog 257 #[.slice (some ⟨g, o, none⟩) n c, .func (.func 258) #[] #[]] w fun e w' => e = .returned (.bool (!l.all (· == pgIn))) ∧ Own w [] w' := by
  subst hn
  exact containsFunc_spec hs hl
theorem PgAt.part {w : World} {g o : Nat} {L : List Pg} (h : PgAt w g o L) (i n : Nat) : PgAt w g (o + i * 3) ((L.drop i).take n) := by
  refine ⟨h.1, fun j p hp => ?_⟩
  have hp' : L[i + j]? = some p := by
    rw [List.getElem?_take] at hp
    split at hp
    · rw [List.getElem?_drop] at hp; exact hp
    · cases hp
  obtain ⟨h1, h2, h3⟩ := h.2 (i + j) p hp'
  rw [show o + i * 3 + j * 3 = o + (i + j) * 3 from by omega]
  exact ⟨h1, h2, h3⟩
theorem PgAt.empty {w : World} {g o o' : Nat} {L : List Pg} (h : PgAt w g o L) : PgAt w g o' [] := ⟨h.1, fun j p hp => by simp at hp⟩
end Go.Proofs.YtfgomgodfcdijaaGreatDoor

/-
  x & (2^s - 1) is x mod 2^s; a shift of one.
-/
namespace Go.Proofs.YtfgomgodfcdijaaGreatDoor
open Go.RowKit
theorem and_mask_i64 (x : Int) (s : Nat) (hs : s ≤ 40) : bits .and .i64 x ((2 : Int) ^ s - 1) = x % 2 ^ s := by
  have hp : (2 : Nat) ^ s ≤ 2 ^ 40 := Nat.pow_le_pow_right (by omega) hs
  have hp1 : 1 ≤ (2 : Nat) ^ s := Nat.one_le_two_pow
  have e1 : ((2 : Int) ^ s - 1) = ((2 ^ s - 1 : Nat) : Int) := by
    rw [Int.natCast_sub hp1]; simp
  have h2 : (BitVec.ofInt 64 ((2 ^ s - 1 : Nat) : Int)).toNat = 2 ^ s - 1 := by
    rw [BitVec.ofInt_natCast, BitVec.toNat_ofNat]; exact Nat.mod_eq_of_lt (by omega)
  have h1 : (BitVec.ofInt 64 x).toNat = (x % 18446744073709551616).toNat := by
    rw [BitVec.toNat_ofInt]; rfl
  rw [e1]
  show IntKind.i64.wrap ((BitVec.ofInt 64 x &&& BitVec.ofInt 64 ((2 ^ s - 1 : Nat) : Int)).toNat : Int) = _
  rw [BitVec.toNat_and, h2, h1, Nat.and_two_pow_sub_one_eq_mod]
  have hlt : (x % 18446744073709551616).toNat % 2 ^ s < 2 ^ s := Nat.mod_lt _ (by omega)
  have hw : IntKind.i64.wrap (((x % 18446744073709551616).toNat % 2 ^ s : Nat) : Int) = (((x % 18446744073709551616).toNat % 2 ^ s : Nat) : Int) := by rw [IntWalk.i64_in] <;> omega
  rw [hw]
  have hpos : 0 ≤ x % 18446744073709551616 := by omega
  rw [Int.natCast_emod, Int.toNat_of_nonneg hpos]
  have hd : ((2 ^ s : Nat) : Int) ∣ 18446744073709551616 := by
    have : (2 : Nat) ^ s ∣ 2 ^ 64 := Nat.pow_dvd_pow 2 (by omega)
    have h := Int.natCast_dvd_natCast.2 this
    exact h
  rw [Int.emod_emod_of_dvd _ hd]
  simp
theorem and_15_i64 (x : Int) : bits .and .i64 x 15 = x % 16 := and_mask_i64 x 4 (by omega)
end Go.Proofs.YtfgomgodfcdijaaGreatDoor

/-
  frame.blocks$1: the iterator's contract, at the wide fence.
-/
namespace Go.Proofs.YtfgomgodfcdijaaGreatDoor
open Go.RowKit Go.Shelf
attribute [local go_sem] Oper.semAt_some
theorem grown_of {w w' : World} (h : Own w [] w') : w.grownBy w' none := by
  have hb := h.below
  exact ⟨hb.os, hb.tape, hb.output, hb.size, fun k hk _ => hb.block k hk⟩
/-- two blocks lie as they lay -/
def Kept2 (a b : Nat) (W W' : World) : Prop := W.heap.size ≤ W'.heap.size ∧ W'.heap[a]? = W.heap[a]? ∧ W'.heap[b]? = W.heap[b]?
theorem Kept2.refl (a b : Nat) (W : World) : Kept2 a b W W := ⟨Nat.le_refl _, rfl, rfl⟩
theorem Kept2.trans {a b : Nat} {A B C : World} (h : Kept2 a b A B) (k : Kept2 a b B C) : Kept2 a b A C := ⟨Nat.le_trans h.1 k.1, k.2.1.trans h.2.1, k.2.2.trans h.2.2⟩
theorem Kept2.below {a b : Nat} {W W' : World} (h : Below W.heap.size W W') (ha : a < W.heap.size) (hb : b < W.heap.size) : Kept2 a b W W' := ⟨h.size, h.block a ha, h.block b hb⟩
theorem Kept2.pg {a b o : Nat} {W W' : World} {L : List Pg} (h : Kept2 a b W W') (hA : PgAt W b o L) : PgAt W' b o L := by
  refine ⟨Nat.lt_of_lt_of_le hA.1 h.1, fun j p hp => ?_⟩
  obtain ⟨h1, h2, h3⟩ := hA.2 j p hp
  exact ⟨(World.cell?_of_block (a := ⟨b, _, none⟩) h.2.2).trans h1, (World.cell?_of_block (a := ⟨b, _, none⟩) h.2.2).trans h2, (World.cell?_of_block (a := ⟨b, _, none⟩) h.2.2).trans h3⟩
theorem Kept2.cell {a b i : Nat} {W W' : World} {v : Value} (h : Kept2 a b W W') (hc : W.cell? ⟨a, i, none⟩ = some v) : W'.cell? ⟨a, i, none⟩ = some v :=
  (World.cell?_of_block (a := ⟨a, i, none⟩) h.2.1).trans hc
theorem cell_lt {W : World} {a : Addr} {v : Value} (h : W.cell? a = some v) : a.block < W.heap.size := by
  by_cases hl : a.block < W.heap.size
  · exact hl
  · have : W.heap[a.block]? = none := Array.getElem?_eq_none (by omega)
    simp [World.cell?, this] at h
/-- what the iterator hands on: a place, and the page there -/
abbrev pgEnc (x : Int × Pg) : Array Value := #[.int .i64 x.1, .agg #[.int .i64 x.2.1, .int .i64 x.2.2.1, .int .i64 x.2.2.2]]
set_option maxRecDepth 100000 in
set_option maxHeartbeats 2000000 in
theorem blocks1_in (n : Nat) (hn : 3 ≤ n) (l Bn : Nat) (g o c : Nat) (L : List Pg) (hL : L.length ≤ 60000) (hLc : L.length ≤ c) (hcm : c ≤ 9223372036854775807) (J Jx : List (Int × Pg) → World → Prop)
    (W : World) (hJ : AbidesFrom W.heap.size J) (_hJx : AbidesFrom W.heap.size Jx)
    (hY : ∀ pre x W1, J pre W1 → pre.length < L.length + 1 → x ∈ pgFrom L 0 → YieldAt Fence.wide (n - 1) Tryz.prog l (pgEnc x) W1 fun e W' =>
      (e = .returned (.bool true) ∧ J (pre ++ [x]) W' ∧ Kept2 Bn g W1 W') ∨ (e = .returned (.bool false) ∧ Jx (pre ++ [x]) W'))
    (hc : W.cell? ⟨Bn, 0, none⟩ = some (.slice (some ⟨g, o, none⟩) L.length c)) (hA : PgAt W g o L) (h0 : J [] W) :
    CallsIn Fence.wide n Tryz.prog 255 #[.func (.yield l) #[] #[], .pointer (some ⟨Bn, 0, none⟩)] W fun e W' => (∃ v, e = .returned v) ∧
      ((∃ ys, ys = pgFrom L 0 ∧ J ys W') ∨ (∃ pre, pre <+: pgFrom L 0 ∧ Jx pre W')) := by
  refine callsIn_of_wp Tryz.func255 rfl trivial ?_ rfl
  simp only [Tryz.ntmps255, List.size_toArray, List.length_cons, List.length_nil, Nat.reduceAdd, Nat.reduceSub, Array.replicate_succ, Array.replicate_zero, List.push_toArray, List.append_toArray, List.nil_append, List.cons_append]
  gi_wp2
  gi_loopw [3] (fun p wr => ∃ (i : Nat) (pre : List (Int × Pg)), i ≤ L.length ∧ p = .int .i64 i ∧ pgFrom L 0 = pre ++ pgFrom L i ∧ pre.length ≤ i ∧ J pre wr ∧ PgAt wr g o L ∧ wr.cell? ⟨Bn, 0, none⟩ = some (.slice (some ⟨g, o, none⟩) L.length c)) (fun p wr => L.length - (iOf p).toNat)
  case atStart => exact ⟨0, [], by omega, rfl, rfl, by simp, h0, hA, hc⟩
  case round =>
    obtain ⟨i, pre, hi, rfl, hx, hlen, hJs, hA, hc⟩ := hrel
    by_cases hlt : i < L.length
    · obtain ⟨p, hp⟩ : ∃ p, L[i]? = some p := ⟨_, List.getElem?_eq_getElem hlt⟩
      obtain ⟨q0, q1, q2⟩ := hA.2 i p hp
      obtain ⟨p0, p1, p2⟩ := p
      have hgl := hA.1
      have hBn := cell_lt hc
      simp only at q0 q1 q2 hBn
      obtain ⟨s, hs⟩ : ∃ s : Nat, bits .and .i64 p1 15 = s := ⟨(p1 % 16).toNat, by rw [and_15_i64]; omega⟩
      have hs15 : s < 16 := by have := and_15_i64 p1; omega
      have hpw : (2 : Nat) ^ s ≤ 2 ^ 15 := Nat.pow_le_pow_right (by omega) (by omega)
      have hmin : min s 64 = s := by omega
      obtain ⟨N, hN⟩ : ∃ N : Nat, 2 ^ s = N := ⟨_, rfl⟩
      have hNi : (2 : Int) ^ s = (N : Int) := by rw [← hN]; simp
      have hN1 : 1 ≤ N := by rw [← hN]; exact Nat.one_le_two_pow
      have hN2 : N ≤ 32768 := by omega
      have hs0 : (0 : Int) ≤ s := by omega
      have hand : bits .and .i64 (i : Int) ((N : Int) - 1) = ((i % N : Nat) : Int) := by
        have := and_mask_i64 i s (by omega)
        rw [hNi] at this
        rw [this]; simp
      have hf48 : Fence.wide.fn 256 := trivial
      have hfc : Fence.wide.fn 257 := trivial
      have hn1 : 1 ≤ n := by omega
      have hnew := (Own.self wr).new (.cells #[.int .i64 p0, .int .i64 p1, .int .i64 p2] 191)
      cases ho : pgOk L i (p0, p1, p2) with
      | true =>
        have ho' := ho
        unfold pgOk at ho'
        simp only [Bool.and_eq_true, decide_eq_true_eq, List.all_eq_true, beq_iff_eq] at ho'
        obtain ⟨⟨⟨a1, a2⟩, a3⟩, a4⟩ := ho'
        have hp1 : 0 ≤ p1 ∧ p1 ≤ 10 := by have := of_decide_eq_true a1; simp only at this; omega
        have hsz : pgSize (p0, p1, p2) = N := by
          have : p1.toNat = s := by have := and_15_i64 p1; omega
          simp only [pgSize, this, hN]
        rw [hsz] at a2 a3 a4
        have hand0 : bits .and .i64 (i : Int) ((N : Int) - 1) = 0 := by rw [hand, a2]; rfl
        have i1 : (i : Int) + 1 ≤ (i : Int) + N := by omega
        have i2 : (i : Int) + N ≤ c := by omega
        have i3 : (N : Int) ≤ (L.length : Int) - i := by omega
        have hw1 : IntKind.i64.wrap ((i : Int) + 1) = (i : Int) + 1 := by rw [IntWalk.i64_in] <;> omega
        have hw2 : IntKind.i64.wrap ((i : Int) + N) = (i : Int) + N := by rw [IntWalk.i64_in] <;> omega
        have HO := Lib.hid ho
        have A4 := Lib.hid a4
        clear hand ho a4 hN hpw
        gi_wp2_with (gi_at_call 256; refine (callsIn_wide.2 (headed_spec hnew p0 p1 p2)).mono ?_; rintro e w1 ⟨rfl, h1⟩; rw [a1]; have kk : Kept2 Bn g wr w1 := Kept2.below h1.below hBn hgl; have hc1 := kk.cell hc; have e0 := h1.cell List.mem_cons_self 0; have e1 := h1.cell List.mem_cons_self 1; have e2 := h1.cell List.mem_cons_self 2; simp at e0 e1 e2)
        all_goals refine (callsIn_wide.2 (containsFunc_at (l := (L.drop (i + 1)).take (N - 1)) (by first | exact (kk.pg hA).part (i + 1) (N - 1) | (rw [List.eq_nil_of_length_eq_zero (show ((L.drop (i + 1)).take (N - 1)).length = 0 from by rw [List.length_take, List.length_drop]; omega)]; exact (kk.pg hA).empty)) (by rw [List.length_take, List.length_drop]; omega) (by omega))).mono ?_
        all_goals
          rintro e w2 ⟨rfl, h2⟩
          have hall : ((L.drop (i + 1)).take (N - 1)).all (· == pgIn) = true := by rw [List.all_eq_true]; intro x hx; simpa using A4.out x hx
          rw [hall]
          have hJ2 : J pre w2 := hJ pre wr w2 none hJs (grown_of ((h1.of_self h2).sub (List.nil_sublist _))) (fun r e => by cases e)
          have f0 := (h1.of_self h2).cell List.mem_cons_self 0
          have f1 := (h1.of_self h2).cell List.mem_cons_self 1
          have f2 := (h1.of_self h2).cell List.mem_cons_self 2
          simp at f0 f1 f2
          have hpre : pgFrom L 0 = (pre ++ [((i : Int), (p0, p1, p2))]) ++ pgFrom L (i + N) := by rw [hx, pgFrom_ok hp HO.out, hsz]; simp
          have HPRE := Lib.hid hpre
          obtain ⟨fn, tmps, assign, body, hy, hR⟩ := hY pre ((i : Int), (p0, p1, p2)) w2 hJ2 (by omega) (by rw [HPRE.out]; simp)
          dsimp only [pgEnc] at hy
          have kk2 : Kept2 Bn g w1 w2 := Kept2.below h2.below (cell_lt hc1) (kk.pg hA).1
          have hc2 := kk2.cell hc1
          have hA2 := kk2.pg (kk.pg hA)
          clear hpre hx hc1 e0 e1 e2
          gi_wp2
          refine hR.mono ?_
          rintro e W3 (⟨rfl, hJ3, hk3⟩ | ⟨rfl, hJx3⟩)
          · have hc3 := hk3.cell hc2
            gi_wp2
            go_roundw
            case rel => exact ⟨i + N, _, by omega, by go_num, HPRE.out, by simp; omega, hJ3, hk3.pg hA2, hc3⟩
            case measure => simp [iOf]; omega
          · gi_wp2
            refine bodyPost_ret (results_none rfl _ _ _) rfl ?_
            exact ⟨⟨_, rfl⟩, .inr ⟨_, ⟨_, HPRE.out.symm⟩, hJx3⟩⟩
      | false =>
        have hfin : pgFrom L 0 = pre ++ [((-1 : Int), (p0, p1, p2))] := by rw [hx, pgFrom_no hp ho]
        have HFIN := Lib.hid hfin
        have HAND := Lib.hid hand
        have HO := Lib.hid ho
        clear hfin hx hand ho hpw
        cases a1 : pgHead (p0, p1, p2) with
        | false =>
          gi_wp2_with (gi_at_call 256; refine (callsIn_wide.2 (headed_spec hnew p0 p1 p2)).mono ?_; rintro e w1 ⟨rfl, h1⟩; rw [a1]; have kk : Kept2 Bn g wr w1 := Kept2.below h1.below hBn hgl; have hc1 := kk.cell hc; have e0 := h1.cell List.mem_cons_self 0; have e1 := h1.cell List.mem_cons_self 1; have e2 := h1.cell List.mem_cons_self 2; simp at e0 e1 e2; obtain ⟨fn, tmps, assign, body, hy, hR⟩ := hY pre ((-1 : Int), (p0, p1, p2)) w1 (hJ pre wr w1 none hJs (grown_of (h1.sub (List.nil_sublist _))) (fun r e => by cases e)) (by omega) (by rw [HFIN.out]; simp); dsimp only [pgEnc] at hy)
          refine hR.mono ?_
          rintro e W3 (⟨rfl, hJ3, hk3⟩ | ⟨rfl, hJx3⟩)
          · gi_wp2
            refine bodyPost_ret (results_none rfl _ _ _) rfl ?_
            exact ⟨⟨_, rfl⟩, .inl ⟨_, HFIN.out.symm, hJ3⟩⟩
          · gi_wp2
            refine bodyPost_ret (results_none rfl _ _ _) rfl ?_
            exact ⟨⟨_, rfl⟩, .inr ⟨_, ⟨[], by rw [HFIN.out, List.append_nil]⟩, hJx3⟩⟩
        | true =>
          have hp1 : 0 ≤ p1 ∧ p1 ≤ 10 := by have := of_decide_eq_true a1; simp only at this; omega
          have hsz : pgSize (p0, p1, p2) = N := by
            have : p1.toNat = s := by have := and_15_i64 p1; omega
            simp only [pgSize, this, hN]
          by_cases a2 : i % N = 0
          · have hand0 : bits .and .i64 (i : Int) ((N : Int) - 1) = 0 := by rw [HAND.out, a2]; rfl
            by_cases a3 : i + N ≤ L.length
            · have i1 : (i : Int) + 1 ≤ (i : Int) + N := by omega
              have i2 : (i : Int) + N ≤ c := by omega
              have i3 : (N : Int) ≤ (L.length : Int) - i := by omega
              have hw1 : IntKind.i64.wrap ((i : Int) + 1) = (i : Int) + 1 := by rw [IntWalk.i64_in] <;> omega
              have hw2 : IntKind.i64.wrap ((i : Int) + N) = (i : Int) + N := by rw [IntWalk.i64_in] <;> omega
              have hall : ((L.drop (i + 1)).take (N - 1)).all (· == pgIn) = false := by
                have := HO.out
                unfold pgOk at this
                rw [a1, hsz, decide_eq_true a2, decide_eq_true a3] at this
                simpa using this
              have HALL := Lib.hid hall
              clear hall hN a2
              gi_wp2_with (gi_at_call 256; refine (callsIn_wide.2 (headed_spec hnew p0 p1 p2)).mono ?_; rintro e w1 ⟨rfl, h1⟩; rw [a1]; have kk : Kept2 Bn g wr w1 := Kept2.below h1.below hBn hgl; have hc1 := kk.cell hc; have e0 := h1.cell List.mem_cons_self 0; have e1 := h1.cell List.mem_cons_self 1; have e2 := h1.cell List.mem_cons_self 2; simp at e0 e1 e2)
              all_goals refine (callsIn_wide.2 (containsFunc_at (l := (L.drop (i + 1)).take (N - 1)) (by first | exact (kk.pg hA).part (i + 1) (N - 1) | (rw [List.eq_nil_of_length_eq_zero (show ((L.drop (i + 1)).take (N - 1)).length = 0 from by rw [List.length_take, List.length_drop]; omega)]; exact (kk.pg hA).empty)) (by rw [List.length_take, List.length_drop]; omega) (by omega))).mono ?_
              all_goals
                rintro e w2 ⟨rfl, h2⟩
                rw [HALL.out]
                have hJ2 : J pre w2 := hJ pre wr w2 none hJs (grown_of ((h1.of_self h2).sub (List.nil_sublist _))) (fun r e => by cases e)
                have f0 := (h1.of_self h2).cell List.mem_cons_self 0
                have f1 := (h1.of_self h2).cell List.mem_cons_self 1
                have f2 := (h1.of_self h2).cell List.mem_cons_self 2
                simp at f0 f1 f2
                obtain ⟨fn, tmps, assign, body, hy, hR⟩ := hY pre ((-1 : Int), (p0, p1, p2)) w2 hJ2 (by omega) (by rw [HFIN.out]; simp)
                dsimp only [pgEnc] at hy
                clear hc1 e0 e1 e2
                gi_wp2
                refine hR.mono ?_
                rintro e W3 (⟨rfl, hJ3, hk3⟩ | ⟨rfl, hJx3⟩)
                · gi_wp2
                  refine bodyPost_ret (results_none rfl _ _ _) rfl ?_
                  exact ⟨⟨_, rfl⟩, .inl ⟨_, HFIN.out.symm, hJ3⟩⟩
                · gi_wp2
                  refine bodyPost_ret (results_none rfl _ _ _) rfl ?_
                  exact ⟨⟨_, rfl⟩, .inr ⟨_, ⟨[], by rw [HFIN.out, List.append_nil]⟩, hJx3⟩⟩
            · have i3 : ¬ ((N : Int) ≤ (L.length : Int) - i) := by omega
              gi_wp2_with (gi_at_call 256; refine (callsIn_wide.2 (headed_spec hnew p0 p1 p2)).mono ?_; rintro e w1 ⟨rfl, h1⟩; rw [a1]; have kk : Kept2 Bn g wr w1 := Kept2.below h1.below hBn hgl; have hc1 := kk.cell hc; have e0 := h1.cell List.mem_cons_self 0; have e1 := h1.cell List.mem_cons_self 1; have e2 := h1.cell List.mem_cons_self 2; simp at e0 e1 e2; obtain ⟨fn, tmps, assign, body, hy, hR⟩ := hY pre ((-1 : Int), (p0, p1, p2)) w1 (hJ pre wr w1 none hJs (grown_of (h1.sub (List.nil_sublist _))) (fun r e => by cases e)) (by omega) (by rw [HFIN.out]; simp); dsimp only [pgEnc] at hy)
              refine hR.mono ?_
              rintro e W3 (⟨rfl, hJ3, hk3⟩ | ⟨rfl, hJx3⟩)
              · gi_wp2
                refine bodyPost_ret (results_none rfl _ _ _) rfl ?_
                exact ⟨⟨_, rfl⟩, .inl ⟨_, HFIN.out.symm, hJ3⟩⟩
              · gi_wp2
                refine bodyPost_ret (results_none rfl _ _ _) rfl ?_
                exact ⟨⟨_, rfl⟩, .inr ⟨_, ⟨[], by rw [HFIN.out, List.append_nil]⟩, hJx3⟩⟩
          · have hand0 : ¬ (bits .and .i64 (i : Int) ((N : Int) - 1) = 0) := by rw [HAND.out]; omega
            gi_wp2_with (gi_at_call 256; refine (callsIn_wide.2 (headed_spec hnew p0 p1 p2)).mono ?_; rintro e w1 ⟨rfl, h1⟩; rw [a1]; have kk : Kept2 Bn g wr w1 := Kept2.below h1.below hBn hgl; have hc1 := kk.cell hc; have e0 := h1.cell List.mem_cons_self 0; have e1 := h1.cell List.mem_cons_self 1; have e2 := h1.cell List.mem_cons_self 2; simp at e0 e1 e2; obtain ⟨fn, tmps, assign, body, hy, hR⟩ := hY pre ((-1 : Int), (p0, p1, p2)) w1 (hJ pre wr w1 none hJs (grown_of (h1.sub (List.nil_sublist _))) (fun r e => by cases e)) (by omega) (by rw [HFIN.out]; simp); dsimp only [pgEnc] at hy)
            refine hR.mono ?_
            rintro e W3 (⟨rfl, hJ3, hk3⟩ | ⟨rfl, hJx3⟩)
            · gi_wp2
              refine bodyPost_ret (results_none rfl _ _ _) rfl ?_
              exact ⟨⟨_, rfl⟩, .inl ⟨_, HFIN.out.symm, hJ3⟩⟩
            · gi_wp2
              refine bodyPost_ret (results_none rfl _ _ _) rfl ?_
              exact ⟨⟨_, rfl⟩, .inr ⟨_, ⟨[], by rw [HFIN.out, List.append_nil]⟩, hJx3⟩⟩
    · have hil : i = L.length := by omega
      subst hil
      rw [pgFrom_end (Nat.le_refl _), List.append_nil] at hx
      gi_wp2
      go_end0
      exact ⟨⟨_, rfl⟩, .inl ⟨pre, hx.symm, hJs⟩⟩
end Go.Proofs.YtfgomgodfcdijaaGreatDoor
