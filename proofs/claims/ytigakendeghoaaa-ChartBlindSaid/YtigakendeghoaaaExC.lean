/-
  The runner: values and memory over names, against the model's. No condition.
-/
import Derived.Test.YtigakendeghoaaaExB
import Derived.Maps.AppendAt
import Derived.Laws.CopyRow
import Derived.Deep.MidRow
import Derived.Laws.StructEq
import Derived.Laws.Tables
import Derived.Scope
import Derived.LoopN
namespace Go.Proofs.Ytigakendeghoaaa.Ex
open Go

abbrev Ren := Nat → Option (Nat × Nat)

/-- a place that is served -/
def Ps.fit : Ps → Prop
  | .x => False
  | .h => True
  | .o p => p.fit
  | .i p => p.fit
theorem toPs_inj : ∀ (d k j : Nat), toPs d k = toPs d j → (toPs d k).fit → k = j
  | 0, _, _, _, h => by simp [toPs, Ps.fit] at h
  | d + 1, k, j, he, hf => by
    unfold toPs at he hf
    have hb : ∀ a b : Nat, Nat.beq a b = decide (a = b) := fun a b => by
      cases h : Nat.beq a b with
      | true => have := Nat.eq_of_beq_eq_true h; subst this; simp
      | false => have := Nat.ne_of_beq_eq_false h; simp [this]
    simp only [hb] at he hf
    by_cases hk : k = 0
    · subst hk
      by_cases hj : j = 0
      · exact hj.symm
      · simp [hj] at he
        split at he <;> cases he
    · by_cases hj : j = 0
      · subst hj
        simp [hk] at he
        split at he <;> cases he
      · simp only [hk, hj, decide_false] at he hf
        have e1 : ∀ n : Nat, Nat.mod n 2 = n % 2 := fun _ => rfl
        have e2 : ∀ n : Nat, Nat.div n 2 = n / 2 := fun _ => rfl
        have e3 : ∀ n m : Nat, Nat.sub n m = n - m := fun _ _ => rfl
        simp only [e1, e2, e3] at he hf
        by_cases h1 : k % 2 = 1 <;> by_cases h2 : j % 2 = 1 <;> simp only [h1, h2, decide_true, decide_false] at he hf
        · have := toPs_inj d _ _ (by injection he) hf
          omega
        · cases he
        · cases he
        · have := toPs_inj d _ _ (by injection he) hf
          omega
theorem T.getP_e {α : Type} : ∀ p : Ps, T.getP p (.e : T α) = none
  | .x => rfl
  | .h => rfl
  | .o _ => rfl
  | .i _ => rfl
theorem T.get_setP {α : Type} {x : Option α} : ∀ (p q : Ps) (t : T α) (v : α), T.getP q (T.setP x p t) = some v → (q = p ∧ p.fit ∧ x = some v) ∨ (q ≠ p ∧ T.getP q t = some v)
  | .x, q, t, v, h => by
    have h : T.getP q t = some v := h
    refine .inr ⟨fun he => ?_, h⟩
    subst he
    cases h
  | .h, q, t, v, h => by
    cases t <;> cases q <;> simp [T.getP, T.setP] at h ⊢ <;> first | exact ⟨trivial, h⟩ | exact h | exact absurd h (by rw [← T.getP, T.getP_e]; simp)
  | .o p, q, t, v, h => by
    cases t with
    | e => cases q with
      | x => cases h
      | h => cases h
      | o q =>
        have h : T.getP q (T.setP x p .e) = some v := h
        rcases T.get_setP p q .e v h with ⟨rfl, h2, h3⟩ | ⟨h1, h2⟩
        · exact .inl ⟨rfl, h2, h3⟩
        · rw [T.getP_e] at h2; cases h2
      | i q =>
        have h : T.getP q (.e : T α) = some v := h
        rw [T.getP_e] at h; cases h
    | n l u r => cases q with
      | x => cases h
      | h => exact .inr ⟨(by intro he; cases he), h⟩
      | o q =>
        have h : T.getP q (T.setP x p r) = some v := h
        rcases T.get_setP p q r v h with ⟨rfl, h2, h3⟩ | ⟨h1, h2⟩
        · exact .inl ⟨rfl, h2, h3⟩
        · exact .inr ⟨(by intro he; injection he with he; exact h1 he), h2⟩
      | i q => exact .inr ⟨(by intro he; cases he), h⟩
  | .i p, q, t, v, h => by
    cases t with
    | e => cases q with
      | x => cases h
      | h => cases h
      | i q =>
        have h : T.getP q (T.setP x p .e) = some v := h
        rcases T.get_setP p q .e v h with ⟨rfl, h2, h3⟩ | ⟨h1, h2⟩
        · exact .inl ⟨rfl, h2, h3⟩
        · rw [T.getP_e] at h2; cases h2
      | o q =>
        have h : T.getP q (.e : T α) = some v := h
        rw [T.getP_e] at h; cases h
    | n l u r => cases q with
      | x => cases h
      | h => exact .inr ⟨(by intro he; cases he), h⟩
      | i q =>
        have h : T.getP q (T.setP x p l) = some v := h
        rcases T.get_setP p q l v h with ⟨rfl, h2, h3⟩ | ⟨h1, h2⟩
        · exact .inl ⟨rfl, h2, h3⟩
        · exact .inr ⟨(by intro he; injection he with he; exact h1 he), h2⟩
      | o q => exact .inr ⟨(by intro he; cases he), h⟩
theorem T.get_put {α : Type} {t : T α} {k : Nat} {x : Option α} {j : Nat} {v : α} (h : (t.put k x).get j = some v) : (j = k ∧ x = some v) ∨ (j ≠ k ∧ t.get j = some v) := by
  rcases T.get_setP _ _ t v h with ⟨h1, h2, h3⟩ | ⟨h1, h2⟩
  · exact .inl ⟨(toPs_inj 20 k j h1.symm h2).symm, h3⟩
  · exact .inr ⟨fun he => h1 (by rw [he]), h2⟩

def SE.ev (σ : Nat → Int) : SE → Int
  | .var i => σ i
  | .lit n => n
  | .bin .add a b => IntKind.i64.wrap (a.ev σ + b.ev σ)
  | .bin .sub a b => IntKind.i64.wrap (a.ev σ - b.ev σ)
  | .bin .mul a b => IntKind.i64.wrap (a.ev σ * b.ev σ)
  | .ubin .add a b => IntKind.u64.wrap (a.ev σ + b.ev σ)
  | .ubin .sub a b => IntKind.u64.wrap (a.ev σ - b.ev σ)
  | .ubin .mul a b => IntKind.u64.wrap (a.ev σ * b.ev σ)
  | .cv k a => k.wrap (a.ev σ)
def Cnd.ev (σ : Nat → Int) : Cnd → Bool
  | .lt a b => decide (a.ev σ < b.ev σ)
  | .eq a b => a.ev σ == b.ev σ
/-- what the numbers are -/
class Nums extends Fc where
  σ : Nat → Int
  ok : ∀ f ∈ facts, f.1.ev σ = f.2
def RoomR (off c sz s : Nat) : Room → Prop
  | .whole => off = 0 ∧ c * sz = s
  | .any => True
  | .ex c0 => c = c0
section
variable [Nums]
mutual
def VR (ρ : Ren) : AV → Value → Prop
  | .bool b, v => v = .bool b
  | .int k n, v => v = .int k n
  | .sym k e, v => v = .int k (e.ev Nums.σ)
  | .str s, v => v = .string s
  | .nilp, v => v = .pointer none
  | .ptr n off, v => ∃ b s, ρ n = some (b, s) ∧ v = .pointer (some ⟨b, off, none⟩)
  | .gptr g off, v => v = .pointer (some ⟨g, off, none⟩)
  | .nilsl, v => v = .slice none 0 0
  | .sl n off len sz r, v => ∃ b s c, ρ n = some (b, s) ∧ v = .slice (some ⟨b, off, none⟩) len c ∧ len ≤ c ∧ c ≤ maxLen ∧ RoomR off c sz s r
  | .esl n, v => ∃ a c, v = .slice (some a) 0 c
  | .nilmap, v => v = .map none
  | .map n, v => ∃ b s, ρ n = some (b, s) ∧ v = .map (some b)
  | .fn f x y, v => ∃ a c : Array Value, v = .func f a c ∧ VRs ρ x a.toList ∧ VRs ρ y c.toList
  | .nilfn, v => v = .nilFunc
  | .nilif, v => v = .nilIface
  | .ifc t x, v => ∃ y, v = .iface t y ∧ VR ρ x y
  | .agg l, v => ∃ a : Array Value, v = .agg a ∧ VRs ρ l a.toList
  | .tup l, v => ∃ a : Array Value, v = .tuple a ∧ VRs ρ l a.toList
def VRs (ρ : Ren) : List AV → List Value → Prop
  | [], l => l = []
  | x :: xs, l => ∃ y ys, l = y :: ys ∧ VR ρ x y ∧ VRs ρ xs ys
end
variable {ρ ρ' : Ren}
theorem VRs.nil : VRs ρ [] [] := by simp [VRs]
theorem VRs.cons {x : AV} {y : Value} {xs : List AV} {ys : List Value} (h : VR ρ x y) (t : VRs ρ xs ys) : VRs ρ (x :: xs) (y :: ys) := by
  unfold VRs; exact ⟨y, ys, rfl, h, t⟩
theorem VRs.uncons {x : AV} {xs : List AV} {l : List Value} (h : VRs ρ (x :: xs) l) : ∃ y ys, l = y :: ys ∧ VR ρ x y ∧ VRs ρ xs ys := by
  unfold VRs at h; exact h
theorem VRs.one {x : AV} {l : List Value} (h : VRs ρ [x] l) : ∃ y, l = [y] ∧ VR ρ x y := by
  obtain ⟨y, ys, rfl, h1, h2⟩ := h.uncons
  unfold VRs at h2; subst h2; exact ⟨y, rfl, h1⟩
theorem VRs.two {x x' : AV} {l : List Value} (h : VRs ρ [x, x'] l) : ∃ y y', l = [y, y'] ∧ VR ρ x y ∧ VR ρ x' y' := by
  obtain ⟨y, ys, rfl, h1, h2⟩ := h.uncons
  obtain ⟨y', rfl, h3⟩ := h2.one; exact ⟨y, y', rfl, h1, h3⟩
theorem VRs.three {x x' x'' : AV} {l : List Value} (h : VRs ρ [x, x', x''] l) : ∃ y y' y'', l = [y, y', y''] ∧ VR ρ x y ∧ VR ρ x' y' ∧ VR ρ x'' y'' := by
  obtain ⟨y, ys, rfl, h1, h2⟩ := h.uncons
  obtain ⟨y', y'', rfl, h3, h4⟩ := h2.two; exact ⟨y, y', y'', rfl, h1, h3, h4⟩
theorem VRs.four {x x' x'' x3 : AV} {l : List Value} (h : VRs ρ [x, x', x'', x3] l) : ∃ y y' y'' y3, l = [y, y', y'', y3] ∧ VR ρ x y ∧ VR ρ x' y' ∧ VR ρ x'' y'' ∧ VR ρ x3 y3 := by
  obtain ⟨y, ys, rfl, h1, h2⟩ := h.uncons
  obtain ⟨y', y'', y3, rfl, h3, h4⟩ := h2.three; exact ⟨y, y', y'', y3, rfl, h1, h3, h4⟩
theorem VRs.len : ∀ {l : List AV} {m : List Value}, VRs ρ l m → l.length = m.length
  | [], m, h => by unfold VRs at h; subst h; rfl
  | x :: xs, m, h => by
    obtain ⟨y, ys, rfl, _, h2⟩ := h.uncons
    simp [VRs.len h2]
theorem VRs.get : ∀ {l : List AV} {m : List Value} {i : Nat} {v : AV}, VRs ρ l m → l[i]? = some v → ∃ x, m[i]? = some x ∧ VR ρ v x
  | [], m, i, v, _, h => by simp at h
  | x :: xs, m, i, v, h, hi => by
    obtain ⟨y, ys, rfl, h1, h2⟩ := h.uncons
    cases i with
    | zero => simp at hi; subst hi; exact ⟨y, rfl, h1⟩
    | succ i => exact VRs.get (i := i) h2 (by simpa using hi)
theorem VRs.append : ∀ {l l' : List AV} {m m' : List Value}, VRs ρ l m → VRs ρ l' m' → VRs ρ (l ++ l') (m ++ m')
  | [], _, m, _, h, h' => by unfold VRs at h; subst h; exact h'
  | x :: xs, _, m, _, h, h' => by
    obtain ⟨y, ys, rfl, h1, h2⟩ := h.uncons
    exact VRs.cons h1 (VRs.append h2 h')
theorem VRs.take : ∀ {l : List AV} {m : List Value} (n : Nat), VRs ρ l m → VRs ρ (l.take n) (m.take n)
  | _, _, 0, _ => by simp [VRs]
  | [], m, n + 1, h => by unfold VRs at h; subst h; simp [VRs]
  | x :: xs, m, n + 1, h => by
    obtain ⟨y, ys, rfl, h1, h2⟩ := h.uncons
    exact VRs.cons h1 (VRs.take n h2)
theorem VRs.drop : ∀ {l : List AV} {m : List Value} (n : Nat), VRs ρ l m → VRs ρ (l.drop n) (m.drop n)
  | _, _, 0, h => by simpa using h
  | [], m, n + 1, h => by unfold VRs at h; subst h; simp [VRs]
  | x :: xs, m, n + 1, h => by
    obtain ⟨y, ys, rfl, h1, h2⟩ := h.uncons
    simpa using VRs.drop n h2
theorem VRs.rep {z : List AV} {y : List Value} (h : VRs ρ z y) : ∀ n, VRs ρ (Ex.rep n z) (List.replicate n y).flatten
  | 0 => by simp [Ex.rep, VRs]
  | n + 1 => by
    rw [List.replicate_succ, List.flatten_cons]
    exact VRs.append h (VRs.rep h n)
mutual
theorem VR.mono (hρ : ∀ n p, ρ n = some p → ρ' n = some p) : ∀ {v : AV} {x : Value}, VR ρ v x → VR ρ' v x
  | .bool _, _, h => by unfold VR at h ⊢; exact h
  | .int _ _, _, h => by unfold VR at h ⊢; exact h
  | .sym _ _, _, h => by unfold VR at h ⊢; exact h
  | .str _, _, h => by unfold VR at h ⊢; exact h
  | .nilp, _, h => by unfold VR at h ⊢; exact h
  | .ptr _ _, _, h => by
    unfold VR at h ⊢
    obtain ⟨b, s, h1, h2⟩ := h
    exact ⟨b, s, hρ _ _ h1, h2⟩
  | .gptr _ _, _, h => by unfold VR at h ⊢; exact h
  | .nilsl, _, h => by unfold VR at h ⊢; exact h
  | .sl .., _, h => by
    unfold VR at h ⊢
    obtain ⟨b, s, c, h1, h2⟩ := h
    exact ⟨b, s, c, hρ _ _ h1, h2⟩
  | .esl _, _, h => by unfold VR at h ⊢; exact h
  | .nilmap, _, h => by unfold VR at h ⊢; exact h
  | .map _, _, h => by
    unfold VR at h ⊢
    obtain ⟨b, s, h1, h2⟩ := h
    exact ⟨b, s, hρ _ _ h1, h2⟩
  | .fn _ _ _, _, h => by
    unfold VR at h ⊢
    obtain ⟨a, c, h1, h2, h3⟩ := h
    exact ⟨a, c, h1, VRs.mono hρ h2, VRs.mono hρ h3⟩
  | .nilfn, _, h => by unfold VR at h ⊢; exact h
  | .nilif, _, h => by unfold VR at h ⊢; exact h
  | .ifc _ _, _, h => by
    unfold VR at h ⊢
    obtain ⟨y, h1, h2⟩ := h
    exact ⟨y, h1, VR.mono hρ h2⟩
  | .agg _, _, h => by
    unfold VR at h ⊢
    obtain ⟨a, h1, h2⟩ := h
    exact ⟨a, h1, VRs.mono hρ h2⟩
  | .tup _, _, h => by
    unfold VR at h ⊢
    obtain ⟨a, h1, h2⟩ := h
    exact ⟨a, h1, VRs.mono hρ h2⟩
theorem VRs.mono (hρ : ∀ n p, ρ n = some p → ρ' n = some p) : ∀ {l : List AV} {m : List Value}, VRs ρ l m → VRs ρ' l m
  | [], _, h => by unfold VRs at h ⊢; exact h
  | x :: xs, _, h => by
    unfold VRs at h ⊢
    obtain ⟨y, ys, h1, h2, h3⟩ := h
    exact ⟨y, ys, h1, VR.mono hρ h2, VRs.mono hρ h3⟩
end
mutual
theorem ofV_sound (ρ : Ren) : ∀ {v : Value} {x : AV}, ofV v = some x → VR ρ x v
  | .bool _, _, h => by simp [ofV] at h; subst h; simp [VR]
  | .int _ _, _, h => by simp [ofV] at h; subst h; simp [VR]
  | .string _, _, h => by simp [ofV] at h; subst h; simp [VR]
  | .pointer none, _, h => by simp [ofV] at h; subst h; simp [VR]
  | .pointer (some _), _, h => by simp [ofV] at h
  | .slice none 0 0, _, h => by simp [ofV] at h; subst h; simp [VR]
  | .slice none 0 (_ + 1), _, h => by simp [ofV] at h
  | .slice none (_ + 1) _, _, h => by simp [ofV] at h
  | .slice (some _) _ _, _, h => by simp [ofV] at h
  | .map none, _, h => by simp [ofV] at h; subst h; simp [VR]
  | .map (some _), _, h => by simp [ofV] at h
  | .nilFunc, _, h => by simp [ofV] at h; subst h; simp [VR]
  | .nilIface, _, h => by simp [ofV] at h; subst h; simp [VR]
  | .agg cs, _, h => by
    simp only [ofV, Option.map_eq_some_iff] at h
    obtain ⟨l, h1, rfl⟩ := h
    unfold VR
    exact ⟨cs, rfl, ofA_sound ρ h1⟩
  | .tuple cs, _, h => by
    simp only [ofV, Option.map_eq_some_iff] at h
    obtain ⟨l, h1, rfl⟩ := h
    unfold VR
    exact ⟨cs, rfl, ofA_sound ρ h1⟩
  | .float _ _, _, h => by simp [ofV] at h
  | .complex _ _ _, _, h => by simp [ofV] at h
  | .chan _, _, h => by simp [ofV] at h
  | .func _ _ _, _, h => by simp [ofV] at h
  | .iface _ _, _, h => by simp [ofV] at h
theorem ofA_sound (ρ : Ren) : ∀ {a : Array Value} {l : List AV}, ofA a = some l → VRs ρ l a.toList
  | ⟨m⟩, _, h => ofL_sound ρ (by simpa [ofA] using h)
theorem ofL_sound (ρ : Ren) : ∀ {m : List Value} {l : List AV}, ofL m = some l → VRs ρ l m
  | [], _, h => by simp [ofL] at h; subst h; simp [VRs]
  | v :: m, _, h => by
    unfold ofL at h
    split at h
    · rename_i x hx
      split at h
      · rename_i xs hxs
        simp at h
        subst h
        exact VRs.cons (ofV_sound ρ hx) (ofL_sound ρ hxs)
      · cases h
    · cases h
end
theorem VR.oneCell {v : AV} {x : Value} (h : VR ρ v x) (h1 : v.one = true) : x.oneCell' = true := by
  cases v <;> simp only [VR] at h <;> first
    | (cases h1; done)
    | (subst h; rfl)
    | (obtain ⟨_, _, _, rfl⟩ := h; rfl)
    | (obtain ⟨_, _, _, _, rfl, _⟩ := h; rfl)
    | (obtain ⟨_, _, rfl⟩ := h; rfl)
    | (obtain ⟨_, _, rfl, _⟩ := h; rfl)
    | (obtain ⟨_, rfl, _⟩ := h; rfl)
theorem VR.cells {v : AV} {x : Value} (h : VR ρ v x) : VRs ρ v.cells x.cells.toList := by
  have key : ∀ (u : AV) (y : Value), VR ρ u y → u.cells = [u] → y.cells = #[y] → VRs ρ u.cells y.cells.toList := by
    intro u y hu h1 h2
    rw [h1, h2]
    exact VRs.cons hu VRs.nil
  cases v with
  | agg l =>
    unfold VR at h
    obtain ⟨a, rfl, h⟩ := h
    exact h
  | _ =>
    refine key _ _ h rfl ?_
    simp only [VR] at h
    first
    | (subst h; rfl)
    | (obtain ⟨_, _, _, rfl⟩ := h; rfl)
    | (obtain ⟨_, _, _, _, rfl, _⟩ := h; rfl)
    | (obtain ⟨_, _, rfl⟩ := h; rfl)
    | (obtain ⟨_, _, rfl, _⟩ := h; rfl)
    | (obtain ⟨_, rfl, _⟩ := h; rfl)
omit [Nums] in
theorem allOne_mem : ∀ {l : List AV}, allOne l = true → ∀ v ∈ l, v.one = true
  | [], _, _, h => by cases h
  | v :: l, h, u, hu => by
    unfold allOne at h
    split at h
    · rename_i h1
      rcases List.mem_cons.1 hu with rfl | hu
      · exact h1
      · exact allOne_mem h u hu
    · cases h
theorem VRs.ones {l : List AV} {m : List Value} (h : VRs ρ l m) (h1 : allOne l = true) : ∀ x ∈ m, x.oneCell' = true := by
  intro x hx
  obtain ⟨i, hi, rfl⟩ := List.getElem_of_mem hx
  have hl : i < l.length := by rw [h.len]; exact hi
  obtain ⟨y, hy, hv⟩ := h.get (List.getElem?_eq_getElem hl)
  rw [List.getElem?_eq_getElem hi] at hy
  cases hy
  exact hv.oneCell (allOne_mem h1 _ (List.getElem_mem hl))
end
end Go.Proofs.Ytigakendeghoaaa.Ex
