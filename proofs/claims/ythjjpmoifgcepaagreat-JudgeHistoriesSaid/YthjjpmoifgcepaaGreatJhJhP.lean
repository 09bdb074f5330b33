import Derived.Test.YthjjpmoifgcepaaGreatJh1
/-
  wainscotlaw30.JudgeHistories: plain snaps, plain histories. No condition.
-/
namespace Go.Proofs.YthjjpmoifgcepaaGreat.Jh
/-- a handle -/
structure Hn where
  cache : Int
  slab : Int
  obj : Int
  group : Int
  out : Bool
/-- a call that has ended -/
structure Dd where
  cpu : Int
  op : Int
  fr : Int
  tp : Int
  e : Int
  hs : List Int
/-- a snap -/
structure Sn where
  now : Int
  depths : List Int
  paths : List (List Int)
  used : List Int
  most : List Int
  owned : List Int
  held : List Int
  flies : List Int
  tags : List Int
  nc : Nat
  hn : List Hn
  ds : List Dd
/-- a group's path may be -/
def PathOk (p : List Int) (g : Int) : Prop := 0 < p.length ∧ 1 ≤ p.getD 0 0 ∧ p.getD (p.length - 1) 0 = g ∧ ∀ i, i + 1 < p.length → p.getD i 0 < p.getD (i + 1) 0
/-- .. as the document says it -/
def PathRef (p : List Int) (g n : Int) : Prop := (∀ i, i < p.length → (1 ≤ p.getD i 0 ∧ p.getD i 0 ≤ n) ∧ (0 < i → p.getD (i - 1) 0 < p.getD i 0)) ∧ 0 < p.length ∧ p.getD (p.length - 1) 0 = g
theorem mono {p : List Int} (h : ∀ i, i + 1 < p.length → p.getD i 0 < p.getD (i + 1) 0) : ∀ (d i : Nat), i + d < p.length → p.getD i 0 ≤ p.getD (i + d) 0
  | 0, i, _ => Int.le_refl _
  | d + 1, i, hd => by
    have h1 := mono h d i (by omega)
    have h2 := h (i + d) (by omega)
    rw [show i + (d + 1) = i + d + 1 by omega]
    omega
theorem path_iff {p : List Int} {g n : Int} (hg : g ≤ n) : PathRef p g n ↔ PathOk p g := by
  constructor
  · rintro ⟨h1, h2, h3⟩
    exact ⟨h2, (h1 0 h2).1.1, h3, fun i hi => (h1 (i + 1) hi).2 (by omega)⟩
  · rintro ⟨h1, h2, h3, h4⟩
    refine ⟨fun i hi => ⟨⟨?_, ?_⟩, fun h0 => ?_⟩, h1, h3⟩
    · have := mono h4 i 0 (by omega)
      rw [Nat.zero_add] at this
      omega
    · have := mono h4 (p.length - 1 - i) i (by omega)
      rw [show i + (p.length - 1 - i) = p.length - 1 by omega, h3] at this
      omega
    · have := h4 (i - 1) (by omega)
      rwa [show i - 1 + 1 = i by omega] at this
/-- a call that has ended may be: of so many handles, so many processors, now -/
def DidOk (m : Nat) (c : Nat) (now : Int) (d : Dd) : Prop := (∀ h ∈ d.hs, 0 ≤ h ∧ h ≤ (m : Int) - 1) ∧ (0 ≤ d.cpu ∧ d.cpu ≤ (c : Int) - 1) ∧ (0 ≤ d.fr ∧ d.fr ≤ d.tp) ∧ d.tp ≤ now
def Sn.Paths (s : Sn) : Prop := ∀ (g : Nat) p, s.paths[g]? = some p → PathOk p ((g : Int) + 1)
def Sn.Calls (s : Sn) : Prop := ∀ d ∈ s.ds, DidOk s.hn.length s.depths.length s.now d
def Sn.Tags (s : Sn) : Prop := ∀ t ∈ s.tags, 0 ≤ t ∧ t ≤ (s.nc : Int)
def Sn.Hans (s : Sn) : Prop := ∀ h ∈ s.hn, 0 ≤ h.cache ∧ h.cache ≤ (s.nc : Int) - 1
def Sn.Lens (s : Sn) : Prop := s.used.length = s.paths.length ∧ s.most.length = s.paths.length ∧ s.owned.length = s.paths.length ∧ s.held.length = s.paths.length ∧ s.flies.length = s.paths.length
def Sn.Size (s : Sn) : Prop := (1 ≤ s.depths.length ∧ s.depths.length ≤ 8) ∧ (1 ≤ s.paths.length ∧ s.paths.length ≤ 16) ∧ (1 ≤ s.tags.length ∧ s.tags.length ≤ 1024)
/-- a snap may be, alone -/
def Sn.Ok (s : Sn) : Prop := s.Lens ∧ s.Size ∧ s.Tags ∧ s.Hans ∧ s.Paths ∧ s.Calls
/-! histories -/
def gives (op : Int) : Bool := op == 1 || (op == 3 || op == 12)
def takes (op : Int) : Bool := op == 2 || (op == 4 || op == 13)
def isGive (h : Int) (d : Dd) : Bool := decide (h ∈ d.hs) && gives d.op
def isTake (h : Int) (d : Dd) : Bool := decide (h ∈ d.hs) && (decide (d.e = 0) && takes d.op)
def giv (ds : List Dd) (h : Int) : Int × Int := match ds.find? (isGive h) with
  | some d => (d.fr, d.tp)
  | none => (0, -1)
/-- the least beginning of those that name a handle -/
def least (h : Int) : Option Int → List Dd → Option Int
  | o, [] => o
  | o, d :: r => least h (if h ∈ d.hs then (match o with | none => some d.fr | some x => if d.fr < x then some d.fr else some x) else o) r
def tak (ds : List Dd) (h : Int) : Int × Int := match ds.find? (isTake h) with
  | some d => (d.fr, d.tp)
  | none => ((least h none ds).getD 0, -1)
def spans (ds : List Dd) (i : Nat) (h : Hn) : List (List Int) := [1, h.cache, h.slab, h.obj, (giv ds i).1, (giv ds i).2] :: (if h.out then [] else [[3, h.cache, h.slab, h.obj, (tak ds i).1, (tak ds i).2]])
def histF (ds : List Dd) : Nat → List Hn → List (List Int)
  | _, [] => []
  | i, h :: r => spans ds i h ++ histF ds (i + 1) r
theorem histF_app {ds : List Dd} : ∀ {a b : List Hn} {i : Nat}, histF ds i (a ++ b) = histF ds i a ++ histF ds (i + a.length) b
  | [], b, i => by simp [histF]
  | h :: a, b, i => by
    rw [List.cons_append, histF, histF, histF_app (a := a), List.append_assoc, List.length_cons, show i + 1 + a.length = i + (a.length + 1) by omega]
theorem histF_succ {ds : List Dd} {L : List Hn} {i : Nat} {h : Hn} (hi : L[i]? = some h) : histF ds 0 (L.take (i + 1)) = histF ds 0 (L.take i) ++ spans ds i h := by
  obtain ⟨hl, he⟩ := List.getElem?_eq_some_iff.1 hi
  rw [List.take_succ_eq_append_getElem hl, histF_app, he, List.length_take, Nat.min_eq_left (by omega), Nat.zero_add]
  simp [histF]
theorem spans_six {ds : List Dd} {i : Nat} {h : Hn} : ∀ x ∈ spans ds i h, x.length = 6 := by
  intro x hx
  unfold spans at hx
  rcases List.mem_cons.1 hx with rfl | hx
  · rfl
  · split at hx
    · cases hx
    · rw [List.mem_singleton] at hx
      subst hx
      rfl
theorem histF_six {ds : List Dd} : ∀ {L : List Hn} {i : Nat}, ∀ x ∈ histF ds i L, x.length = 6
  | [], _, x, hx => by cases hx
  | h :: L, i, x, hx => by
    rcases List.mem_append.1 hx with hx | hx
    · exact spans_six x hx
    · exact histF_six x hx
theorem histF_len {ds : List Dd} : ∀ {L : List Hn} {i : Nat}, (histF ds i L).length ≤ 2 * L.length
  | [], _ => Nat.le_refl _
  | h :: L, i => by
    rw [histF, List.length_append]
    have h1 := histF_len (ds := ds) (L := L) (i := i + 1)
    have h2 : (spans ds i h).length ≤ 2 := by unfold spans; split <;> simp
    simp only [List.length_cons]
    omega
def Sn.hist (s : Sn) : List (List Int) := histF s.ds 0 s.hn
/-! searching, from a place on -/
theorem find_at {α : Type} {f : α → Bool} {L : List α} {i : Nat} {x : α} (hx : L[i]? = some x) (hf : f x = true) (hno : ∀ (j : Nat) y, j < i → L[j]? = some y → f y = false) : L.find? f = some x := by
  induction L generalizing i with
  | nil => cases hx
  | cons a L ih =>
    cases i with
    | zero =>
      simp only [List.getElem?_cons_zero, Option.some.injEq] at hx
      subst hx
      rw [List.find?_cons, hf]
    | succ i =>
      have ha := hno 0 a (by omega) rfl
      rw [List.find?_cons, ha]
      exact ih (by simpa using hx) fun j y hj hy => hno (j + 1) y (by omega) (by simpa using hy)
theorem find_no {α : Type} {f : α → Bool} {L : List α} (hno : ∀ (j : Nat) y, L[j]? = some y → f y = false) : L.find? f = none := by
  rw [List.find?_eq_none]
  intro x hx
  obtain ⟨j, hj, rfl⟩ := List.getElem_of_mem hx
  rw [hno j _ (List.getElem?_eq_getElem hj)]
  decide
/-- .. from the beginning, step by step -/
def leastT (h : Int) (L : List Dd) (i : Nat) : Option Int := least h none (L.take i)
theorem least_app {h : Int} : ∀ {a b : List Dd} {o : Option Int}, least h o (a ++ b) = least h (least h o a) b
  | [], _, _ => rfl
  | d :: a, b, o => by
    show least h _ (a ++ b) = least h (least h _ a) b
    exact least_app
theorem leastT_succ {h : Int} {L : List Dd} {i : Nat} {d : Dd} (hi : L[i]? = some d) : leastT h L (i + 1) = if h ∈ d.hs then (match leastT h L i with | none => some d.fr | some x => if d.fr < x then some d.fr else some x) else leastT h L i := by
  obtain ⟨hl, he⟩ := List.getElem?_eq_some_iff.1 hi
  unfold leastT
  rw [List.take_succ_eq_append_getElem hl, least_app, he]
  rfl
theorem leastT_end {h : Int} {L : List Dd} : leastT h L L.length = least h none L := by unfold leastT; rw [List.take_length]
theorem least_pos {h : Int} : ∀ {L : List Dd} {o : Option Int}, (∀ d ∈ L, 0 ≤ d.fr) → (∀ x, o = some x → 0 ≤ x) → ∀ x, least h o L = some x → 0 ≤ x
  | [], o, _, ho, x, hx => ho x hx
  | d :: L, o, hL, ho, x, hx => by
    refine least_pos (L := L) (fun d' hd => hL d' (List.mem_cons_of_mem _ hd)) ?_ x hx
    intro z hz
    have h0 := hL d List.mem_cons_self
    split at hz
    · cases o with
      | none => simp only [Option.some.injEq] at hz; omega
      | some y =>
        have := ho y rfl
        simp only at hz
        split at hz <;> (simp only [Option.some.injEq] at hz; omega)
    · exact ho z hz
end Go.Proofs.YthjjpmoifgcepaaGreat.Jh
