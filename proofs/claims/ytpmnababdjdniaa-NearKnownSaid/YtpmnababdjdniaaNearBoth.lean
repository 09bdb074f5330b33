/-
  near.Near and wainscotref07.Near, said of lists of pages alone.
-/
import Derived.Test.YtpmnababdjdniaaNearRef3
namespace Go.Proofs.Ytpmnababdjdniaa
open Go.RowKit

def xAt (X : List (List Int)) (cpu : Int) : Option (List Int) := if 0 ≤ cpu then X[cpu.toNat]? else none
def xHas (X : List (List Int)) (p : Int) : Bool := X.any fun xs => decide (p ∈ xs)
def nPut (X : List (List Int)) (lim cpu p : Int) : (List Int × Int) × List (List Int) :=
  match xAt X cpu with
  | none => (([], 9), X)
  | some xs =>
    if p < 0 ∨ 1024 ≤ p then (([], 9), X) else if xHas X p then (([], 60), X) else
    (((xs ++ [p]).take (nrK lim (xs.length + 1)), 0), X.set cpu.toNat ((xs ++ [p]).drop (nrK lim (xs.length + 1))))
def nTake (X : List (List Int)) (cpu : Int) : (Int × Bool) × List (List Int) :=
  match xAt X cpu with
  | none => ((0, false), X)
  | some xs => match xs.getLast? with
    | none => ((0, false), X)
    | some p => ((p, true), X.set cpu.toNat xs.dropLast)
def nDrain (X : List (List Int)) (cpu : Int) : List Int × List (List Int) :=
  match xAt X cpu with
  | none => ([], X)
  | some xs => (xs, X.set cpu.toNat [])
def nList (X : List (List Int)) (cpu : Int) : List Int := (xAt X cpu).getD []

/-- the lists are there, for what they hold -/
def XsAre (lim : Int) (L : List NL) (X : List (List Int)) : Prop := NrOk lim L ∧ L.map (·.xs) = X
section
variable {T : TypeId} {W : World} {m : List (Nat × Obj)} {w : World} {b bl : Nat} {lim : Int} {L : List NL} {X : List (List Int)}

theorem XsAre.at_none (h : XsAre lim L X) {cpu : Int} (hx : xAt X cpu = none) : cpu < 0 ∨ L.length ≤ cpu := by
  unfold xAt at hx
  split at hx
  · rw [List.getElem?_eq_none_iff, ← h.2, List.length_map] at hx; omega
  · omega
theorem XsAre.at_some (h : XsAre lim L X) {cpu : Int} {xs : List Int} (hx : xAt X cpu = some xs) : ∃ (i : Nat) (x : NL), cpu = i ∧ L[i]? = some x ∧ x.xs = xs := by
  unfold xAt at hx
  split at hx
  · obtain ⟨i, rfl⟩ := Int.eq_ofNat_of_zero_le ‹_›
    rw [← h.2, List.getElem?_map] at hx
    obtain ⟨x, hx1, rfl⟩ := Option.map_eq_some_iff.1 hx
    rw [Int.toNat_natCast] at hx1
    exact ⟨i, x, rfl, hx1, rfl⟩
  · cases hx
theorem XsAre.has (h : XsAre lim L X) (p : Int) : nrHas L p = xHas X p := by
  unfold nrHas xHas
  rw [← h.2, List.any_map]
  rfl
theorem XsAre.set (h : XsAre lim L X) {i : Nat} {y : NL} (hy : y.ok) (hl : y.xs.length ≤ 64) : XsAre lim (L.set i y) (X.set i y.xs) := by
  refine ⟨⟨by simpa using h.1.1, h.1.2.1, h.1.2.2.1, fun z hz => ?_⟩, by rw [List.map_set, h.2]⟩
  rcases List.mem_or_eq_of_mem_set hz with hz | rfl
  · exact h.1.2.2.2 z hz
  · exact ⟨hy, hl⟩
theorem drop_le {lim : Int} (h : lim ≤ 64) (h0 : 0 ≤ lim) {xs : List Int} (hx : xs.length ≤ 64) (p : Int) : ((xs ++ [p]).drop (nrK lim (xs.length + 1))).length ≤ 64 := by
  unfold nrK
  split
  · simp; omega
  · simp; omega

/-- what a Put does -/
def NPutPost (W : World) (m : List (Nat × Obj)) (T : TypeId) (b bl : Nat) (lim : Int) (X : List (List Int)) (cpu p : Int) (e : Ending) (w' : World) : Prop :=
  ∃ v bs L', e = .returned (.tuple #[v, .int .i64 (nPut X lim cpu p).1.2]) ∧ IntsOwn false v (nPut X lim cpu p).1.1 bs ∧ XsAre lim L' (nPut X lim cpu p).2 ∧ Own W (bs ++ (nrBlocks T b bl lim L' ++ m)) w'
theorem nput_post (h : Own W (nrBlocks T b bl lim L ++ m) w) (ok : XsAre lim L X) {e : Ending} {x : NL} {i : Nat} (hx : L[i]? = some x) {p : Int} (h0 : 0 ≤ p) (h1 : p < 1024) (hh : xHas X p = false) {w' : World}
    (hp : NrPut W m T b bl lim L i x.xs p e w') : NPutPost W m T b bl lim X i p e w' := by
  obtain ⟨vr, bsr, y, he, h2, h3, h4, h5⟩ := hp
  have hxa : xAt X (i : Int) = some x.xs := by
    unfold xAt
    rw [if_pos (by omega), ← ok.2, List.getElem?_map, Int.toNat_natCast, hx]; rfl
  have e1 : nPut X lim i p = (((x.xs ++ [p]).take (nrK lim (x.xs.length + 1)), 0), X.set i ((x.xs ++ [p]).drop (nrK lim (x.xs.length + 1)))) := by
    unfold nPut
    rw [hxa]
    simp only [Int.toNat_natCast]
    rw [if_neg (by omega), if_neg (by rw [hh]; simp)]
  refine ⟨vr, bsr, _, by rw [e1]; exact he, by rw [e1]; exact h2, ?_, h5⟩
  rw [e1, ← h4]
  refine ok.set h3 ?_
  rw [h4]
  exact drop_le ok.1.2.2.1 ok.1.2.1 (ok.1.at_ hx).2 p
theorem nput_nil (h : Own W (nrBlocks T b bl lim L ++ m) w) (ok : XsAre lim L X) {cpu p r : Int} (e1 : nPut X lim cpu p = (([], r), X)) : NPutPost W m T b bl lim X cpu p (.returned (.tuple #[.slice none 0 0, .int .i64 r])) w := by
  refine ⟨_, [], L, by rw [e1], by rw [e1]; exact SlO.nil _ _ _, by rw [e1]; exact ok, h⟩
theorem nput_spec (h : Own W (nrBlocks T b bl lim L ++ m) w) (ok : XsAre lim L X) (hl1 : 1 ≤ L.length) (cpu p : Int) :
    Calls Try.prog 30 #[.pointer (some ⟨b, 0, none⟩), .int .i64 cpu, .int .i64 p] w (NPutPost W m T b bl lim X cpu p) := by
  cases hx : xAt X cpu with
  | none =>
    refine (put_range h ok.1 hl1 cpu p (by have := ok.at_none hx; omega)).mono ?_
    rintro e w' ⟨rfl, rfl⟩
    exact nput_nil h ok (by simp [nPut, hx])
  | some xs =>
    obtain ⟨i, x, rfl, hx', rfl⟩ := ok.at_some hx
    by_cases hp : p < 0 ∨ 1024 ≤ p
    · refine (put_range h ok.1 hl1 i p (by omega)).mono ?_
      rintro e w' ⟨rfl, rfl⟩
      exact nput_nil h ok (by simp [nPut, hx, hp])
    · cases hh : xHas X p with
      | true =>
        refine (put_block h ok.1 i (List.getElem?_eq_some_iff.1 hx').1 p (by omega) (by omega) (by rw [ok.has, hh])).mono ?_
        rintro e w' ⟨rfl, ho⟩
        exact nput_nil ho ok (by simp [nPut, hx, hp, hh])
      | false =>
        refine (put_yes h ok.1 i hx' p (by omega) (by omega) (by rw [ok.has, hh])).mono ?_
        exact fun e w' hp' => nput_post h ok hx' (by omega) (by omega) hh hp'
theorem rput_spec (h : Own W (nrBlocks T b bl lim L ++ m) w) (ok : XsAre lim L X) (cpu p : Int) :
    Calls Try.prog 40 #[.pointer (some ⟨b, 0, none⟩), .int .i64 cpu, .int .i64 p] w (NPutPost W m T b bl lim X cpu p) := by
  cases hx : xAt X cpu with
  | none =>
    refine (nref.put_range h cpu p (by have := ok.at_none hx; omega)).mono ?_
    rintro e w' ⟨rfl, rfl⟩
    exact nput_nil h ok (by simp [nPut, hx])
  | some xs =>
    obtain ⟨i, x, rfl, hx', rfl⟩ := ok.at_some hx
    by_cases hp : p < 0 ∨ 1024 ≤ p
    · refine (nref.put_range h i p (by omega)).mono ?_
      rintro e w' ⟨rfl, rfl⟩
      exact nput_nil h ok (by simp [nPut, hx, hp])
    · cases hh : xHas X p with
      | true =>
        refine (nref.put_block h ok.1 i (List.getElem?_eq_some_iff.1 hx').1 p (by omega) (by omega) (by rw [ok.has, hh])).mono ?_
        rintro e w' ⟨rfl, rfl⟩
        exact nput_nil h ok (by simp [nPut, hx, hp, hh])
      | false =>
        refine (nref.put_yes h ok.1 i hx' p (by omega) (by omega) (by rw [ok.has, hh])).mono ?_
        exact fun e w' hp' => nput_post h ok hx' (by omega) (by omega) hh hp'

/-- what a Take does -/
def NTakePost (W : World) (m : List (Nat × Obj)) (T : TypeId) (b bl : Nat) (lim : Int) (X : List (List Int)) (cpu : Int) (e : Ending) (w' : World) : Prop :=
  ∃ L', e = .returned (.tuple #[.int .i64 (nTake X cpu).1.1, .bool (nTake X cpu).1.2]) ∧ XsAre lim L' (nTake X cpu).2 ∧ Own W (nrBlocks T b bl lim L' ++ m) w'
theorem ntake_nil (h : Own W (nrBlocks T b bl lim L ++ m) w) (ok : XsAre lim L X) {cpu : Int} (e1 : nTake X cpu = ((0, false), X)) : NTakePost W m T b bl lim X cpu (.returned (.tuple #[.int .i64 0, .bool false])) w :=
  ⟨L, by rw [e1], by rw [e1]; exact ok, h⟩
theorem ntake_post (ok : XsAre lim L X) {i : Nat} {x : NL} (hx : L[i]? = some x) {p : Int} {ys : List Int} (hp : x.xs = ys ++ [p]) {w' : World} {e : Ending}
    (he : e = .returned (.tuple #[.int .i64 p, .bool true]) ∧ ∃ y, NL.ok y ∧ y.xs = ys ∧ Own W (nrBlocks T b bl lim (L.set i y) ++ m) w') : NTakePost W m T b bl lim X i e w' := by
  obtain ⟨rfl, y, h1, h2, h3⟩ := he
  have hxa : xAt X (i : Int) = some x.xs := by
    unfold xAt
    rw [if_pos (by omega), ← ok.2, List.getElem?_map, Int.toNat_natCast, hx]; rfl
  have e1 : nTake X i = ((p, true), X.set i ys) := by
    unfold nTake
    rw [hxa, hp]
    simp
  refine ⟨_, by rw [e1], ?_, h3⟩
  rw [e1, ← h2]
  refine ok.set h1 ?_
  have := (ok.1.at_ hx).2
  rw [hp] at this
  simp at this
  rw [h2]; omega
theorem ntake_spec (h : Own W (nrBlocks T b bl lim L ++ m) w) (ok : XsAre lim L X) (cpu : Int) :
    Calls Try.prog 31 #[.pointer (some ⟨b, 0, none⟩), .int .i64 cpu] w (NTakePost W m T b bl lim X cpu) := by
  cases hx : xAt X cpu with
  | none =>
    refine (take_out h ok.1 cpu (ok.at_none hx)).mono ?_
    rintro e w' ⟨rfl, rfl⟩
    exact ntake_nil h ok (by simp [nTake, hx])
  | some xs =>
    obtain ⟨i, x, rfl, hx', rfl⟩ := ok.at_some hx
    rcases List.eq_nil_or_concat x.xs with hn | ⟨ys, p, hp⟩
    · refine (take_empty h ok.1 i hx' hn).mono ?_
      rintro e w' ⟨rfl, rfl⟩
      exact ntake_nil h ok (by simp [nTake, hx, hn])
    · rw [List.concat_eq_append] at hp
      exact (take_yes h ok.1 i hx' hp).mono fun e w' he => ntake_post ok hx' hp he
theorem rtake_spec (h : Own W (nrBlocks T b bl lim L ++ m) w) (ok : XsAre lim L X) (cpu : Int) :
    Calls Try.prog 41 #[.pointer (some ⟨b, 0, none⟩), .int .i64 cpu] w (NTakePost W m T b bl lim X cpu) := by
  cases hx : xAt X cpu with
  | none =>
    refine (nref.take_out h cpu (ok.at_none hx)).mono ?_
    rintro e w' ⟨rfl, rfl⟩
    exact ntake_nil h ok (by simp [nTake, hx])
  | some xs =>
    obtain ⟨i, x, rfl, hx', rfl⟩ := ok.at_some hx
    rcases List.eq_nil_or_concat x.xs with hn | ⟨ys, p, hp⟩
    · refine (nref.take_empty h ok.1 i hx' hn).mono ?_
      rintro e w' ⟨rfl, rfl⟩
      exact ntake_nil h ok (by simp [nTake, hx, hn])
    · rw [List.concat_eq_append] at hp
      exact (nref.take_yes h ok.1 i hx' hp).mono fun e w' he => ntake_post ok hx' hp he

/-- what a Drain does -/
def NDrainPost (W : World) (m : List (Nat × Obj)) (T : TypeId) (b bl : Nat) (lim : Int) (X : List (List Int)) (cpu : Int) (e : Ending) (w' : World) : Prop :=
  ∃ v bs L', e = .returned v ∧ IntsOwn true v (nDrain X cpu).1 bs ∧ XsAre lim L' (nDrain X cpu).2 ∧ Own W (bs ++ (nrBlocks T b bl lim L' ++ m)) w'
theorem ndrain_nil (h : Own W (nrBlocks T b bl lim L ++ m) w) (ok : XsAre lim L X) {cpu : Int} (hx : xAt X cpu = none) : NDrainPost W m T b bl lim X cpu (.returned (.slice none 0 0)) w := by
  have e1 : nDrain X cpu = ([], X) := by simp [nDrain, hx]
  exact ⟨_, [], L, rfl, by rw [e1]; exact SlO.nil _ _ _, by rw [e1]; exact ok, h⟩
theorem ndrain_post (ok : XsAre lim L X) {i : Nat} {x : NL} (hx : L[i]? = some x) (hxa : xAt X (i : Int) = some x.xs) {w' : World} {e : Ending}
    (he : e = .returned x.v ∧ Own W (x.bs ++ (nrBlocks T b bl lim (L.set i nlNil) ++ m)) w') : NDrainPost W m T b bl lim X i e w' := by
  have e1 : nDrain X i = (x.xs, X.set i []) := by simp [nDrain, hxa]
  exact ⟨_, _, _, he.1, by rw [e1]; exact (ok.1.at_ hx).1, by rw [e1]; exact ok.set nlNil_ok (by simp [nlNil]), he.2⟩
theorem ndrain_spec (h : Own W (nrBlocks T b bl lim L ++ m) w) (ok : XsAre lim L X) (cpu : Int) :
    Calls Try.prog 32 #[.pointer (some ⟨b, 0, none⟩), .int .i64 cpu] w (NDrainPost W m T b bl lim X cpu) := by
  cases hx : xAt X cpu with
  | none =>
    refine (drain_out h ok.1 cpu (ok.at_none hx)).mono ?_
    rintro e w' ⟨rfl, rfl⟩
    exact ndrain_nil h ok hx
  | some xs =>
    obtain ⟨i, x, rfl, hx', rfl⟩ := ok.at_some hx
    exact (drain_in h ok.1 i hx').mono fun e w' he => ndrain_post ok hx' hx he
theorem rdrain_spec (h : Own W (nrBlocks T b bl lim L ++ m) w) (ok : XsAre lim L X) (cpu : Int) :
    Calls Try.prog 42 #[.pointer (some ⟨b, 0, none⟩), .int .i64 cpu] w (NDrainPost W m T b bl lim X cpu) := by
  cases hx : xAt X cpu with
  | none =>
    refine (nref.drain_out h cpu (ok.at_none hx)).mono ?_
    rintro e w' ⟨rfl, rfl⟩
    exact ndrain_nil h ok hx
  | some xs =>
    obtain ⟨i, x, rfl, hx', rfl⟩ := ok.at_some hx
    exact (nref.drain_in h ok.1 i hx').mono fun e w' he => ndrain_post ok hx' hx he

/-- what a List does -/
def NListPost (W : World) (M : List (Nat × Obj)) (xs : List Int) (e : Ending) (w' : World) : Prop :=
  ∃ v bs, e = .returned v ∧ IntsOwn true v xs bs ∧ Own W (bs ++ M) w'
theorem nlist_spec (h : Own W (nrBlocks T b bl lim L ++ m) w) (ok : XsAre lim L X) (cpu : Int) :
    Calls Try.prog 26 #[.pointer (some ⟨b, 0, none⟩), .int .i64 cpu] w (NListPost W (nrBlocks T b bl lim L ++ m) (nList X cpu)) := by
  cases hx : xAt X cpu with
  | none =>
    refine (list_no h ok.1 cpu (ok.at_none hx)).mono ?_
    rintro e w' ⟨rfl, rfl⟩
    exact ⟨_, [], rfl, by simp [nList, hx]; exact SlO.nil _ _ _, h⟩
  | some xs =>
    obtain ⟨i, x, rfl, hx', rfl⟩ := ok.at_some hx
    refine (list_yes h ok.1 i hx').mono ?_
    rintro e w' ⟨v, bs, rfl, h1, h2⟩
    exact ⟨v, bs, rfl, by simpa [nList, hx] using h1, h2⟩
theorem rlist_spec (h : Own W (nrBlocks T b bl lim L ++ m) w) (ok : XsAre lim L X) (cpu : Int) :
    Calls Try.prog 28 #[.pointer (some ⟨b, 0, none⟩), .int .i64 cpu] w (NListPost W (nrBlocks T b bl lim L ++ m) (nList X cpu)) := by
  cases hx : xAt X cpu with
  | none =>
    refine (nref.list_no h cpu (ok.at_none hx)).mono ?_
    rintro e w' ⟨rfl, rfl⟩
    exact ⟨_, [], rfl, by simp [nList, hx]; exact SlO.nil _ _ _, h⟩
  | some xs =>
    obtain ⟨i, x, rfl, hx', rfl⟩ := ok.at_some hx
    refine (nref.list_yes h ok.1 i hx').mono ?_
    rintro e w' ⟨v, bs, rfl, h1, h2⟩
    exact ⟨v, bs, rfl, by simpa [nList, hx] using h1, h2⟩
end
end Go.Proofs.Ytpmnababdjdniaa
