/-
  Texts of this claim, joined. No condition.
-/
import Derived.Test.YtfgomgodfcdijaaGreatDoorKn2
/-
  The runner: memory over names against the model's worlds; how a step changes both. No condition.
-/
namespace Go.Proofs.YtfgomgodfcdijaaGreatDoor.Ex
open Go
variable [Nums]

def MR (ρ : Ren) : List (AV × AV) → List MapEntry → Prop
  | [], l => l = []
  | p :: ps, l => ∃ e es, l = e :: es ∧ VR ρ p.1 e.key ∧ VR ρ p.2 e.val ∧ MR ρ ps es
def OR (ρ : Ren) (o : AO) (s : Nat) (x : Option Obj) : Prop := match o with
  | .cells cs k e => ∃ cur : Array Value, x = some (.cells cur e (0, 0)) ∧ cur.size = s ∧ k ≤ s ∧ ∀ i v, cs.get i = some v → v.one = true ∧ ∃ y, cur[i]? = some y ∧ VR ρ v y
  | .map es bs ck => ∃ xs : Array MapEntry, x = some (.map xs ck) ∧ MR ρ es xs.toList ∧ xs.toList.map (·.born) = bs
  | .mit none _ _ _ => x = some (.mapIter none 0 #[] 0)
  | .mit (some m) since seen last => ∃ b s, ρ m = some (b, s) ∧ x = some (.mapIter (some b) since seen.toArray last)
  | .opq i => ∃ b0 z0 b1 z1, ρ 0 = some (b0, z0) ∧ ρ 1 = some (b1, z1) ∧ x = some (Nums.ω i b0 b1)
  | .opb i n m => ∃ b0 z0 b1 z1 o, ρ n = some (b0, z0) ∧ ρ m = some (b1, z1) ∧ x = some o ∧ Nums.Ω i b0 b1 o
  | .recs l ks e => ∃ cur : Array Value, x = some (.cells cur e (0, 0)) ∧ cur.size = s ∧ l.evN Nums.σ * ks.length ≤ s ∧ ∀ r j k, r < l.evN Nums.σ → ks[j]? = some k → cur[r * ks.length + j]? = some (k.val (l.evA Nums.σ r j))
/-- tables of numbers, as memory holds them -/
def Tabs (gs : List (Nat × List Int)) (w : World) : Prop := ∀ g l, findG g gs = some l → ∃ e q, w.heap[g]? = some (.cells (l.map (Value.int .i64)).toArray e q)
/-- slices of numbers that nobody changes, as memory holds them -/
def Ros (w : World) : Prop := ∀ i k A len c, findK i Fc.rks = some k → Nums.ro i = some (A, len, c) → (Nums.σ (ln i)).toNat = len ∧ ∀ a, A = some a → 0 < len → a.block < w.heap.size ∧ ∀ e, e < len → w.cell? (a.add e) = some (k.val (Nums.σ (lc i e 0)))
/-- a block that nobody may change -/
def isRo (b : Nat) : Prop := ∃ i k a len c, findK i Fc.rks = some k ∧ Nums.ro i = some (some a, len, c) ∧ 0 < len ∧ a.block = b
/-- what is known of memory: blocks by names -/
structure HR (ρ : Ren) (g : Nat → Option AO) (nx : Nat) (w : World) : Prop where
  fresh : ∀ n, nx ≤ n → ρ n = none
  obj : ∀ n o, g n = some o → ∃ b s, ρ n = some (b, s) ∧ OR ρ o s w.heap[b]?
  inj : ∀ n m b s s', (g n).isSome = true → (g m).isSome = true → ρ n = some (b, s) → ρ m = some (b, s') → n = m
  gl : Tabs Fc.globs w
  gn : ∀ b l, findG b Fc.globs = some l → ∀ n s, (g n).isSome = true → ρ n ≠ some (b, s)
  rl : Ros w
  rn : ∀ b, isRo b → ∀ n s, (g n).isSome = true → ρ n ≠ some (b, s)
structure Stp (ρ : Ren) (g : Nat → Option AO) (nx : Nat) (w : World) (ρ' : Ren) (g' : Nat → Option AO) (nx' : Nat) (w' : World) : Prop where
  hr : HR ρ' g' nx' w'
  ext : ∀ n, n < nx → ρ' n = ρ n
  gr : nx ≤ nx'
  os : w'.os = w.os
  tape : w'.tape = w.tape
  output : w'.output = w.output
  size : w.heap.size ≤ w'.heap.size
  block : ∀ b, b < w.heap.size → (∀ n s, (g n).isSome = true → ρ n ≠ some (b, s)) → w'.heap[b]? = w.heap[b]?
  live : ∀ n b s, (g' n).isSome = true → ρ' n = some (b, s) → w.heap.size ≤ b ∨ ∃ m s', (g m).isSome = true ∧ ρ m = some (b, s')
  dom : ∀ n, n < nx → (g' n).isSome = true → (g n).isSome = true
section
variable {ρ ρ' ρ1 : Ren} {g g' g1 : Nat → Option AO} {nx nx' n1 : Nat} {w w' w1 : World}
theorem MR.mono (hρ : ∀ n p, ρ n = some p → ρ' n = some p) : ∀ {ps : List (AV × AV)} {l : List MapEntry}, MR ρ ps l → MR ρ' ps l
  | [], _, h => h
  | _ :: _, _, h => by
    obtain ⟨e, es, h1, h2, h3, h4⟩ := h
    exact ⟨e, es, h1, h2.mono hρ, h3.mono hρ, MR.mono hρ h4⟩
theorem OR.mono (hρ : ∀ n p, ρ n = some p → ρ' n = some p) {o : AO} {s : Nat} {x : Option Obj} (h : OR ρ o s x) : OR ρ' o s x := by
  cases o with
  | cells cs k e =>
    obtain ⟨cur, h1, h2, h3, h4⟩ := h
    exact ⟨cur, h1, h2, h3, fun i v hv => by
      obtain ⟨ho, y, hy, hr⟩ := h4 i v hv
      exact ⟨ho, y, hy, hr.mono hρ⟩⟩
  | map es bs ck =>
    obtain ⟨xs, h1, h2, h3⟩ := h
    exact ⟨xs, h1, h2.mono hρ, h3⟩
  | mit m since seen last =>
    cases m with
    | none => exact h
    | some m =>
      obtain ⟨b, z, h1, h2⟩ := h
      exact ⟨b, z, hρ _ _ h1, h2⟩
  | opq i =>
    obtain ⟨b0, z0, b1, z1, h0, h1, h2⟩ := h
    exact ⟨b0, z0, b1, z1, hρ _ _ h0, hρ _ _ h1, h2⟩
  | opb i n m =>
    obtain ⟨b0, z0, b1, z1, o, h0, h1, h2⟩ := h
    exact ⟨b0, z0, b1, z1, o, hρ _ _ h0, hρ _ _ h1, h2⟩
  | recs l ks e => exact h
theorem HR.lt (h : HR ρ g nx w) {n : Nat} {p : Nat × Nat} (hp : ρ n = some p) : n < nx := by
  rcases Nat.lt_or_ge n nx with hlt | hge
  · exact hlt
  · rw [h.fresh n hge] at hp; cases hp
theorem HR.sub (h : HR ρ g nx w) (hs : ∀ n o, g' n = some o → g n = some o) : HR ρ g' nx w := by
  have hi : ∀ n, (g' n).isSome = true → (g n).isSome = true := fun n hn => by
    cases hg : g' n with
    | none => rw [hg] at hn; cases hn
    | some o => rw [hs n o hg]; rfl
  exact ⟨h.fresh, fun n o ho => h.obj n o (hs n o ho), fun n m b s s' hn hm => h.inj n m b s s' (hi n hn) (hi m hm), h.gl, fun b l hl n s hn => h.gn b l hl n s (hi n hn), h.rl, fun b hb n s hn => h.rn b hb n s (hi n hn)⟩
/-- tables stay where named blocks alone change -/
theorem HR.tables (h : HR ρ g nx w) (hb : ∀ b, b < w.heap.size → (∀ n s, (g n).isSome = true → ρ n ≠ some (b, s)) → w'.heap[b]? = w.heap[b]?)
    (hl : ∀ n b s, (g' n).isSome = true → ρ' n = some (b, s) → w.heap.size ≤ b ∨ ∃ m s', (g m).isSome = true ∧ ρ m = some (b, s')) :
    Tabs Fc.globs w' ∧ (∀ b l, findG b Fc.globs = some l → ∀ n s, (g' n).isSome = true → ρ' n ≠ some (b, s)) ∧ Ros w' ∧ ∀ b, isRo b → ∀ n s, (g' n).isSome = true → ρ' n ≠ some (b, s) := by
  have hlt : ∀ b l, findG b Fc.globs = some l → b < w.heap.size := fun b l hf => by
    obtain ⟨e, q, he⟩ := h.gl b l hf
    exact (Array.getElem?_eq_some_iff.1 he).1
  have rlt : ∀ b, isRo b → b < w.heap.size := fun b ⟨i, k, a, len, c, h1, h2, h0, h3⟩ => h3 ▸ ((h.rl i k (some a) len c h1 h2).2 a rfl h0).1
  refine ⟨fun b l hf => ?_, fun b l hf n s hn hp => ?_, fun i k A len c h1 h2 => ?_, fun b hb' n s hn hp => ?_⟩
  · rw [hb b (hlt b l hf) (h.gn b l hf)]
    exact h.gl b l hf
  · rcases hl n b s hn hp with h1 | ⟨m, s', h1, h2⟩
    · have := hlt b l hf
      omega
    · exact h.gn b l hf m s' h1 h2
  · obtain ⟨h3, h4⟩ := h.rl i k A len c h1 h2
    refine ⟨h3, fun a ha h0 => ?_⟩
    subst ha
    obtain ⟨h5, h6⟩ := h4 a rfl h0
    have hbk := hb a.block h5 (h.rn a.block ⟨i, k, a, len, c, h1, h2, h0, rfl⟩)
    refine ⟨?_, fun e he => ?_⟩
    · rcases Nat.lt_or_ge a.block w'.heap.size with h7 | h7
      · exact h7
      · rw [Array.getElem?_eq_none h7, Array.getElem?_eq_getElem h5] at hbk
        cases hbk
    · rw [← h6 e he]
      have hab : (a.add e).block = a.block := by unfold Addr.add; split <;> rfl
      simp only [World.cell?, hab, hbk]
  · rcases hl n b s hn hp with h1 | ⟨m, s', h1, h2⟩
    · have := rlt b hb'
      omega
    · exact h.rn b hb' m s' h1 h2
theorem HR.drew (h : HR ρ g nx w) (n : Nat) : HR ρ g nx { w with drawn := n } := ⟨h.fresh, h.obj, h.inj, h.gl, h.gn, h.rl, h.rn⟩
theorem HR.up (h : HR ρ g nx w) {nx' : Nat} (hn : nx ≤ nx') : HR ρ g nx' w := ⟨fun n hn' => h.fresh n (by omega), h.obj, h.inj, h.gl, h.gn, h.rl, h.rn⟩
theorem Stp.refl (h : HR ρ g nx w) : Stp ρ g nx w ρ g nx w :=
  ⟨h, fun _ _ => rfl, Nat.le_refl _, rfl, rfl, rfl, Nat.le_refl _, fun _ _ _ => rfl, fun n _b s hn hp => .inr ⟨n, s, hn, hp⟩, fun _ _ h => h⟩
theorem Stp.mono (h0 : HR ρ g nx w) (h : Stp ρ g nx w ρ' g' nx' w') : ∀ n p, ρ n = some p → ρ' n = some p :=
  fun n _p hp => (h.ext n (h0.lt hp)).trans hp
theorem Stp.trans {ρ2 : Ren} {g2 : Nat → Option AO} {n2 : Nat} {w2 : World} (h : Stp ρ g nx w ρ1 g1 n1 w1) (k : Stp ρ1 g1 n1 w1 ρ2 g2 n2 w2) : Stp ρ g nx w ρ2 g2 n2 w2 := by
  refine ⟨k.hr, fun n hn => (k.ext n (Nat.lt_of_lt_of_le hn h.gr)).trans (h.ext n hn), Nat.le_trans h.gr k.gr, k.os.trans h.os, k.tape.trans h.tape, k.output.trans h.output, Nat.le_trans h.size k.size, ?_, ?_, fun n hn h2 => h.dom n hn (k.dom n (Nat.lt_of_lt_of_le hn h.gr) h2)⟩
  · intro b hb hl
    refine (k.block b (Nat.lt_of_lt_of_le hb h.size) fun n s hn hp => ?_).trans (h.block b hb hl)
    rcases h.live n b s hn hp with h1 | ⟨m, s', h1, h2⟩
    · omega
    · exact hl m s' h1 h2
  · intro n b s hn hp
    rcases k.live n b s hn hp with h1 | ⟨m, s', h1, h2⟩
    · exact .inl (Nat.le_trans h.size h1)
    · exact h.live m b s' h1 h2
theorem Stp.sub (h : Stp ρ g nx w ρ' g' nx' w') (hs : ∀ n o, g1 n = some o → g' n = some o) : Stp ρ g nx w ρ' g1 nx' w' := by
  have hI : ∀ n, (g1 n).isSome = true → (g' n).isSome = true := fun n hn => by
    cases hg : g1 n with
    | none => rw [hg] at hn; cases hn
    | some o => rw [hs n o hg]; rfl
  exact ⟨h.hr.sub hs, h.ext, h.gr, h.os, h.tape, h.output, h.size, h.block, fun n b s hn => h.live n b s (hI n hn), fun n hn h1 => h.dom n hn (hI n h1)⟩
theorem Stp.drew (h : Stp ρ g nx { w with drawn := w.drawn + 1 } ρ' g' nx' w') : Stp ρ g nx w ρ' g' nx' w' :=
  ⟨h.hr, h.ext, h.gr, h.os, h.tape, h.output, h.size, h.block, h.live, h.dom⟩
/-- from fewer blocks known: the others stay -/
theorem Stp.frame {B : Nat → Option AO} (h0 : HR ρ B nx w) (hs : ∀ n o, g n = some o → B n = some o) (h : Stp ρ g nx w ρ' g' nx' w') (F : Nat → Option AO)
    (hF : ∀ n o, F n = some o → (B n = some o ∧ g n = none) ∨ g' n = some o) : Stp ρ B nx w ρ' F nx' w' := by
  have hm := h.mono (h0.sub hs)
  have hgB : ∀ n, (g n).isSome = true → (B n).isSome = true := fun n hn => by
    cases hg : g n with
    | none => rw [hg] at hn; cases hn
    | some o => rw [hs n o hg]; rfl
  have hkeep : ∀ n o b s, B n = some o → g n = none → ρ n = some (b, s) → w'.heap[b]? = w.heap[b]? ∧ b < w.heap.size := by
    intro n o b s hB hg hp
    obtain ⟨b', s', hp', hO⟩ := h0.obj n o hB
    rw [hp] at hp'
    cases hp'
    have hlt : b < w.heap.size := by
      rcases Nat.lt_or_ge b w.heap.size with hlt | hge
      · exact hlt
      · rw [Array.getElem?_eq_none hge] at hO
        cases o with
        | cells cs k e => obtain ⟨_, h1, _⟩ := hO; cases h1
        | map es bs ck => obtain ⟨_, h1, _⟩ := hO; cases h1
        | mit m since seen last => cases m with
          | none => cases hO
          | some m => obtain ⟨_, _, _, h1⟩ := hO; cases h1
        | opq i => obtain ⟨_, _, _, _, _, _, h1⟩ := hO; cases h1
        | opb i n m => obtain ⟨_, _, _, _, _, _, _, h1, _⟩ := hO; cases h1
        | recs l ks e => obtain ⟨_, h1, _⟩ := hO; cases h1
    refine ⟨h.block b hlt fun m s' hm' hp' => ?_, hlt⟩
    have := h0.inj n m b s s' (by rw [hB]; rfl) (hgB m hm') hp hp'
    subst this
    rw [hg] at hm'
    cases hm'
  refine ⟨⟨h.hr.fresh, ?_, ?_, h.hr.gl, fun b l hf n s hn hp => by
    obtain ⟨o, ho⟩ := Option.isSome_iff_exists.1 hn
    rcases hF n o ho with ⟨h1, h2⟩ | h1
    · obtain ⟨b1, s1, hp1, _⟩ := h0.obj n o h1
      have e1 := hm _ _ hp1
      rw [hp] at e1
      cases e1
      exact h0.gn b l hf n s (by rw [h1]; rfl) hp1
    · exact h.hr.gn b l hf n s (by rw [h1]; rfl) hp, h.hr.rl, fun b hb n s hn hp => by
    obtain ⟨o, ho⟩ := Option.isSome_iff_exists.1 hn
    rcases hF n o ho with ⟨h1, h2⟩ | h1
    · obtain ⟨b1, s1, hp1, _⟩ := h0.obj n o h1
      have e1 := hm _ _ hp1
      rw [hp] at e1
      cases e1
      exact h0.rn b hb n s (by rw [h1]; rfl) hp1
    · exact h.hr.rn b hb n s (by rw [h1]; rfl) hp⟩, h.ext, h.gr, h.os, h.tape, h.output, h.size, ?_, ?_, fun n hn hF1 => by
    obtain ⟨o, ho⟩ := Option.isSome_iff_exists.1 hF1
    rcases hF n o ho with ⟨h1, _⟩ | h1
    · rw [h1]; rfl
    · exact hgB n (h.dom n hn (by rw [h1]; rfl))⟩
  · intro n o hn
    rcases hF n o hn with ⟨h1, h2⟩ | h1
    · obtain ⟨b, s, hp, hO⟩ := h0.obj n o h1
      refine ⟨b, s, hm _ _ hp, ?_⟩
      rw [(hkeep n o b s h1 h2 hp).1]
      exact hO.mono hm
    · exact h.hr.obj n o h1
  · intro n m b s s' hn hm' hp hp'
    obtain ⟨o, ho⟩ := Option.isSome_iff_exists.1 hn
    obtain ⟨o', ho'⟩ := Option.isSome_iff_exists.1 hm'
    have cross : ∀ (n m : Nat) (o o' : AO) (s s' : Nat), B n = some o → g n = none → g' m = some o' → ρ' n = some (b, s) → ρ' m = some (b, s') → n = m := by
      intro n m o o' s s' h1 h2 h3 h4 h5
      obtain ⟨b1, s1, hp1, _⟩ := h0.obj n o h1
      have h6 := hm _ _ hp1
      rw [h4] at h6
      cases h6
      have hlt := (hkeep n o b s h1 h2 hp1).2
      rcases h.live m b s' (by rw [h3]; rfl) h5 with h7 | ⟨q, s2, h7, h8⟩
      · omega
      · have := h0.inj n q b s s2 (by rw [h1]; rfl) (hgB q h7) hp1 h8
        subst this
        rw [h2] at h7
        cases h7
    rcases hF n o ho with ⟨h1, h2⟩ | h1 <;> rcases hF m o' ho' with ⟨h3, h4⟩ | h3
    · obtain ⟨b1, s1, hp1, _⟩ := h0.obj n o h1
      obtain ⟨b2, s2, hp2, _⟩ := h0.obj m o' h3
      have e1 := hm _ _ hp1
      have e2 := hm _ _ hp2
      rw [hp] at e1
      rw [hp'] at e2
      cases e1
      cases e2
      exact h0.inj n m b s s' (by rw [h1]; rfl) (by rw [h3]; rfl) hp1 hp2
    · exact cross n m o o' s s' h1 h2 h3 hp hp'
    · exact (cross m n o' o s' s h3 h4 h1 hp' hp).symm
    · exact h.hr.inj n m b s s' (by rw [h1]; rfl) (by rw [h3]; rfl) hp hp'
  · intro b hb hl
    exact h.block b hb fun n s hn hp => hl n s (hgB n hn) hp
  · intro n b s hn hp
    obtain ⟨o, ho⟩ := Option.isSome_iff_exists.1 hn
    rcases hF n o ho with ⟨h1, h2⟩ | h1
    · obtain ⟨b1, s1, hp1, _⟩ := h0.obj n o h1
      have e1 := hm _ _ hp1
      rw [hp] at e1
      cases e1
      exact .inr ⟨n, s, by rw [h1]; rfl, hp1⟩
    · rcases h.live n b s (by rw [h1]; rfl) hp with h7 | ⟨q, s2, h7, h8⟩
      · exact .inl h7
      · exact .inr ⟨q, s2, hgB q h7, h8⟩

/-- a name is given -/
def upd (ρ : Ren) (n : Nat) (p : Nat × Nat) : Ren := fun m => if m = n then some p else ρ m
/-- a block is made, or a name's block is found anew: the old one, or a new one -/
theorem Stp.name (h : HR ρ g nx w) (n : Nat) (hn : ρ n = none) (nx' : Nat) (hnx : nx ≤ nx') (hlt : n < nx') (hb0 : nx ≤ n ∨ True) {b s : Nat} {o : AO} (hO : OR ρ o s w'.heap[b]?)
    (os : w'.os = w.os) (tape : w'.tape = w.tape) (output : w'.output = w.output) (size : w.heap.size ≤ w'.heap.size)
    (hk : ∀ c, c < w.heap.size → c ≠ b → w'.heap[c]? = w.heap[c]?)
    (hfree : ∀ m s', (g1 m).isSome = true → ρ m ≠ some (b, s')) (hown : w.heap.size ≤ b ∨ ∃ m s', (g m).isSome = true ∧ ρ m = some (b, s'))
    (hg1 : ∀ m o, g1 m = some o → g m = some o) (hg' : ∀ m o', g' m = some o' → (m = n ∧ o' = o) ∨ (m ≠ n ∧ g1 m = some o')) :
    HR (upd ρ n (b, s)) g' nx' w' ∧ (∀ m p, ρ m = some p → upd ρ n (b, s) m = some p) ∧ (nx ≤ n → Stp ρ g nx w (upd ρ n (b, s)) g' nx' w') := by
  have hm : ∀ m p, ρ m = some p → upd ρ n (b, s) m = some p := fun m p hp => by
    unfold upd
    rw [if_neg (fun he => by rw [he, hn] at hp; cases hp)]
    exact hp
  have hI : ∀ m, (g1 m).isSome = true → (g m).isSome = true := fun m hm' => by
    obtain ⟨o, ho⟩ := Option.isSome_iff_exists.1 hm'
    rw [hg1 m o ho]; rfl
  have hblk : ∀ m o' c s', g1 m = some o' → ρ m = some (c, s') → w'.heap[c]? = w.heap[c]? := by
    intro m o' c s' hgm hp
    obtain ⟨c1, s1, hp1, hO1⟩ := h.obj m o' (hg1 m o' hgm)
    rw [hp] at hp1
    cases hp1
    have hlt' : c < w.heap.size := by
      rcases Nat.lt_or_ge c w.heap.size with hlt | hge
      · exact hlt
      · rw [Array.getElem?_eq_none hge] at hO1
        cases o' with
        | cells cs k e => obtain ⟨_, h1, _⟩ := hO1; cases h1
        | map es bs ck => obtain ⟨_, h1, _⟩ := hO1; cases h1
        | mit m since seen last => cases m with
          | none => cases hO1
          | some m => obtain ⟨_, _, _, h1⟩ := hO1; cases h1
        | opq i => obtain ⟨_, _, _, _, _, _, h1⟩ := hO1; cases h1
        | opb i n m => obtain ⟨_, _, _, _, _, _, _, h1, _⟩ := hO1; cases h1
        | recs l ks e => obtain ⟨_, h1, _⟩ := hO1; cases h1
    exact hk c hlt' fun he => hfree m s' (by rw [hgm]; rfl) (by rw [hp, he])
  have hT := h.tables (w' := w') (g' := g') (ρ' := upd ρ n (b, s)) (fun c hc hl => hk c hc fun he => by
      rcases hown with h1 | ⟨m, s', h1, h2⟩
      · omega
      · exact hl m s' h1 (by rw [h2, he])) (fun m c s1 hs hp => by
    obtain ⟨o1, ho1⟩ := Option.isSome_iff_exists.1 hs
    rcases hg' m o1 ho1 with ⟨rfl, rfl⟩ | ⟨hne, h3⟩
    · simp only [upd, if_true] at hp
      cases hp
      exact hown
    · simp only [upd, if_neg hne] at hp
      exact .inr ⟨m, s1, hI m (by rw [h3]; rfl), hp⟩)
  have hr : HR (upd ρ n (b, s)) g' nx' w' := by
    refine ⟨?_, ?_, ?_, hT.1, hT.2.1, hT.2.2.1, hT.2.2.2⟩
    · intro m hm'
      unfold upd
      rw [if_neg (by omega)]
      exact h.fresh m (by omega)
    · intro m o' ho'
      rcases hg' m o' ho' with ⟨rfl, rfl⟩ | ⟨hne, h1⟩
      · exact ⟨b, s, by simp [upd], hO.mono hm⟩
      · obtain ⟨c, s', hp, hO1⟩ := h.obj m o' (hg1 m o' h1)
        refine ⟨c, s', hm _ _ hp, ?_⟩
        rw [hblk m o' c s' h1 hp]
        exact hO1.mono hm
    · intro m q c s1 s2 h1 h2 hp hq
      obtain ⟨o1, ho1⟩ := Option.isSome_iff_exists.1 h1
      obtain ⟨o2, ho2⟩ := Option.isSome_iff_exists.1 h2
      rcases hg' m o1 ho1 with ⟨rfl, rfl⟩ | ⟨hne, h3⟩ <;> rcases hg' q o2 ho2 with ⟨rfl, rfl⟩ | ⟨hne', h4⟩
      · rfl
      · simp only [upd, if_true] at hp
        cases hp
        simp only [upd, if_neg hne'] at hq
        exact absurd hq (hfree q s2 (by rw [h4]; rfl))
      · simp only [upd, if_true] at hq
        cases hq
        simp only [upd, if_neg hne] at hp
        exact absurd hp (hfree m s1 (by rw [h3]; rfl))
      · simp only [upd, if_neg hne] at hp
        simp only [upd, if_neg hne'] at hq
        exact h.inj m q c s1 s2 (hI m (by rw [h3]; rfl)) (hI q (by rw [h4]; rfl)) hp hq
  refine ⟨hr, hm, fun hge => ⟨hr, fun m hm' => ?_, hnx, os, tape, output, size, ?_, ?_, fun m hm' h1 => by
    obtain ⟨o', ho'⟩ := Option.isSome_iff_exists.1 h1
    rcases hg' m o' ho' with ⟨rfl, _⟩ | ⟨_, h3⟩
    · omega
    · exact hI m (by rw [h3]; rfl)⟩⟩
  · unfold upd
    rw [if_neg (by omega)]
  · intro c hc hl
    refine hk c hc fun he => ?_
    rcases hown with h1 | ⟨m, s', h1, h2⟩
    · omega
    · exact hl m s' h1 (by rw [h2, he])
  · intro m c s1 hs hp
    obtain ⟨o1, ho1⟩ := Option.isSome_iff_exists.1 hs
    rcases hg' m o1 ho1 with ⟨rfl, rfl⟩ | ⟨hne, h3⟩
    · simp only [upd, if_true] at hp
      cases hp
      exact hown
    · simp only [upd, if_neg hne] at hp
      exact .inr ⟨m, s1, hI m (by rw [h3]; rfl), hp⟩
/-- a block is made, under a name that was kept for it -/
theorem Stp.kept {ρ0 : Ren} {g0 : Nat → Option AO} {n0 : Nat} {w0 : World} (h : Stp ρ0 g0 n0 w0 ρ g nx w) (n : Nat) (hn : ρ n = none) (hge : n0 ≤ n) (hlt : n < nx) {s : Nat} {o : AO} {obj : Obj} (hO : OR ρ o s (some obj))
    (hw : w'.heap = w.heap.push obj) (os : w'.os = w.os) (tape : w'.tape = w.tape) (output : w'.output = w.output)
    (hg' : ∀ m o', g' m = some o' → (m = n ∧ o' = o) ∨ (m ≠ n ∧ g m = some o')) :
    Stp ρ0 g0 n0 w0 (upd ρ n (w.heap.size, s)) g' nx w' ∧ (∀ m p, ρ m = some p → upd ρ n (w.heap.size, s) m = some p) := by
  have hfree : ∀ m s', (g m).isSome = true → ρ m ≠ some (w.heap.size, s') := by
    intro m s' hm hp
    obtain ⟨o', ho'⟩ := Option.isSome_iff_exists.1 hm
    obtain ⟨b, s1, hb, hO1⟩ := h.hr.obj m o' ho'
    rw [hp] at hb
    cases hb
    rw [Array.getElem?_eq_none (Nat.le_refl _)] at hO1
    cases o' with
    | cells cs k e => obtain ⟨_, h1, _⟩ := hO1; cases h1
    | map es bs ck => obtain ⟨_, h1, _⟩ := hO1; cases h1
    | mit m since seen last => cases m with
      | none => cases hO1
      | some m => obtain ⟨_, _, _, h1⟩ := hO1; cases h1
    | opq i => obtain ⟨_, _, _, _, _, _, h1⟩ := hO1; cases h1
    | opb i n m => obtain ⟨_, _, _, _, _, _, _, h1, _⟩ := hO1; cases h1
    | recs l ks e => obtain ⟨_, h1, _⟩ := hO1; cases h1
  have hold : ∀ c, c < w.heap.size → w'.heap[c]? = w.heap[c]? := fun c hc => by rw [hw, Array.getElem?_push_lt hc, Array.getElem?_eq_getElem hc]
  obtain ⟨hr, hm, _⟩ := Stp.name (g1 := g) (g' := g') (o := o) (w' := w') h.hr n hn nx (Nat.le_refl _) hlt (.inr trivial) (b := w.heap.size) (s := s) (by rw [hw]; simpa using hO) os tape output (by rw [hw]; simp)
    (fun c hc _ => hold c hc) hfree (.inl (Nat.le_refl _)) (fun _ _ h => h) hg'
  refine ⟨⟨hr, fun m hm' => ?_, h.gr, os.trans h.os, tape.trans h.tape, output.trans h.output, by rw [hw]; simp; exact Nat.le_succ_of_le h.size, ?_, ?_, ?_⟩, hm⟩
  · unfold upd
    rw [if_neg (by omega)]
    exact h.ext m hm'
  · intro b hb hl
    rw [hold b (Nat.lt_of_lt_of_le hb h.size)]
    exact h.block b hb hl
  · intro m c s1 hs hp
    obtain ⟨o1, ho1⟩ := Option.isSome_iff_exists.1 hs
    rcases hg' m o1 ho1 with ⟨rfl, rfl⟩ | ⟨hne, h3⟩
    · simp only [upd, if_true] at hp
      cases hp
      exact .inl h.size
    · simp only [upd, if_neg hne] at hp
      exact h.live m c s1 (by rw [h3]; rfl) hp
  · intro m hm' h1
    obtain ⟨o1, ho1⟩ := Option.isSome_iff_exists.1 h1
    rcases hg' m o1 ho1 with ⟨rfl, _⟩ | ⟨_, h3⟩
    · omega
    · exact h.dom m hm' (by rw [h3]; rfl)
/-- a block is changed -/
theorem Stp.change (h : HR ρ g nx w) {n b s : Nat} (hn : (g n).isSome = true) (hp : ρ n = some (b, s)) {o : AO} (hO : OR ρ o s w'.heap[b]?)
    (os : w'.os = w.os) (tape : w'.tape = w.tape) (output : w'.output = w.output) (size : w.heap.size ≤ w'.heap.size)
    (hk : ∀ c, c < w.heap.size → c ≠ b → w'.heap[c]? = w.heap[c]?)
    (hg' : ∀ m o', g' m = some o' → (m = n ∧ o' = o) ∨ (m ≠ n ∧ g m = some o')) : Stp ρ g nx w ρ g' nx w' := by
  have hI : ∀ m, (g' m).isSome = true → (g m).isSome = true := fun m hm => by
    obtain ⟨o', ho'⟩ := Option.isSome_iff_exists.1 hm
    rcases hg' m o' ho' with ⟨rfl, rfl⟩ | ⟨_, h1⟩
    · exact hn
    · rw [h1]; rfl
  have hT := h.tables (w' := w') (g' := g') (ρ' := ρ) (fun c hc hl => hk c hc fun he => hl n s hn (by rw [hp, he])) (fun m c s1 hm hq => .inr ⟨m, s1, hI m hm, hq⟩)
  refine ⟨⟨h.fresh, ?_, fun m q c s1 s2 h1 h2 => h.inj m q c s1 s2 (hI m h1) (hI q h2), hT.1, hT.2.1, hT.2.2.1, hT.2.2.2⟩, fun _ _ => rfl, Nat.le_refl _, os, tape, output, size, ?_, fun m c s1 hm hq => .inr ⟨m, s1, hI m hm, hq⟩, fun m _ h1 => hI m h1⟩
  · intro m o' ho'
    rcases hg' m o' ho' with ⟨rfl, rfl⟩ | ⟨hne, h1⟩
    · exact ⟨b, s, hp, hO⟩
    · obtain ⟨c, s', hq, hO1⟩ := h.obj m o' h1
      refine ⟨c, s', hq, ?_⟩
      have hlt' : c < w.heap.size := by
        rcases Nat.lt_or_ge c w.heap.size with hlt | hge
        · exact hlt
        · rw [Array.getElem?_eq_none hge] at hO1
          cases o' with
          | cells cs k e => obtain ⟨_, h1, _⟩ := hO1; cases h1
          | map es bs ck => obtain ⟨_, h1, _⟩ := hO1; cases h1
          | mit m since seen last => cases m with
            | none => cases hO1
            | some m => obtain ⟨_, _, _, h1⟩ := hO1; cases h1
          | opq i => obtain ⟨_, _, _, _, _, _, h1⟩ := hO1; cases h1
          | opb i n m => obtain ⟨_, _, _, _, _, _, _, h1, _⟩ := hO1; cases h1
          | recs l ks e => obtain ⟨_, h1, _⟩ := hO1; cases h1
      rw [hk c hlt' fun he => hne (h.inj m n c s' s (by rw [h1]; rfl) hn hq (by rw [hp, he]))]
      exact hO1
  · intro c hc hl
    exact hk c hc fun he => hl n s hn (by rw [hp, he])
end
end Go.Proofs.YtfgomgodfcdijaaGreatDoor.Ex

/-
  The runner: an operation that looks at no memory gives what the model gives. No condition.
-/
namespace Go.Proofs.YtfgomgodfcdijaaGreatDoor.Ex
open Go
variable [Nums]
section
variable {P : Program} {ρ : Ren}
omit [Nums] in
theorem aggT_run {t : TypeId} {b : Bool} (h : aggT P t = some b) (w : World) : (isAgg t).run P w = .ok b w := by
  unfold aggT at h
  unfold isAgg
  split at h
  · rename_i hu; rw [Sem.run_bind, run_underlying hu w]; cases h; rfl
  · rename_i hu; rw [Sem.run_bind, run_underlying hu w]; cases h; rfl
  · rename_i d h1 h2 hu
    rw [Sem.run_bind, run_underlying hu w]
    cases h
    cases d <;> first | rfl | (exact absurd rfl (h1 _)) | (exact absurd rfl (h2 _ _))
  · cases h
omit [Nums] in
theorem sizeT_run {t : TypeId} {s : Nat} (h : sizeT P t = some s) (w : World) : (sizeOf t).run P w = .ok s w := by
  unfold sizeT at h
  split at h
  · rename_i i hi
    cases h
    simp [sizeOf, typeInfo, hi]
  · cases h
omit [Nums] in
theorem sizeT_info {t : TypeId} {s : Nat} (h : sizeT P t = some s) : (P.info? t).map (·.size) = some s := by
  unfold sizeT at h
  split at h
  · rename_i i hi
    cases h
    simp [hi]
  · cases h
omit [Nums] in
theorem zeroT_run {t : TypeId} {z : AV} (h : zeroT P t = some z) : ∃ i v, P.info? t = some i ∧ i.zero = some v ∧ ofV v = some z ∧ ∀ w, (zeroValue t).run P w = .ok v w := by
  unfold zeroT at h
  split at h
  · rename_i i hi
    split at h
    · rename_i v hv
      exact ⟨i, v, hi, hv, h, fun w => by simp [zeroValue, typeInfo, hi, hv]⟩
    · cases h
  · cases h
omit [Nums] in
theorem extract_list (a : Array Value) (i j : Nat) : (a.extract i j).toList = (a.toList.drop i).take (j - i) := by
  simp [List.extract_eq_take_drop]
theorem part_sound {t : TypeId} {cs : List AV} {off : Nat} {v : AV} {a : Array Value} (h : part P t cs off = some v) (hv : VRs ρ cs a.toList) :
    ∃ x, VR ρ v x ∧ ∀ w, (Go.part t a off).run P w = .ok x w := by
  unfold part at h
  split at h
  · rename_i hagg
    split at h
    · rename_i s hs
      simp only [Option.some.injEq] at h
      subst h
      refine ⟨.agg (a.extract off (off + s)), ?_, fun w => ?_⟩
      · unfold VR
        refine ⟨_, rfl, ?_⟩
        rw [extract_list, show off + s - off = s from by omega]
        exact (hv.drop off).take s
      · simp [Go.part, aggT_run hagg w, sizeT_run hs w]
    · cases h
  · rename_i hagg
    obtain ⟨x, hx, hr⟩ := hv.get h
    refine ⟨x, hr, fun w => ?_⟩
    rw [Array.getElem?_toList] at hx
    simp [Go.part, aggT_run hagg w, hx]
  · cases h
theorem abin_run {op : BinOp} {k : IntKind} {x y : Int} {v : AV} (h : abin op k x y = some v) (hs : op ≠ .shl) (hs' : op ≠ .shr) (t : TypeId) : ∃ u, VR ρ v u ∧ ∀ w, (binOp op t (.int k x) (.int k y)).run P w = .ok u w := by
  cases op <;> simp only [abin] at h <;> first
    | (exact absurd rfl hs)
    | (exact absurd rfl hs')
    | (simp only [Option.some.injEq] at h; subst h
       refine ⟨_, by unfold VR; rfl, fun w => ?_⟩
       simp [binOp, Op.intArith, Op.intBits, Op.intCmp])
    | (split at h
       · cases h
       · rename_i hd
         simp only [Option.some.injEq] at h; subst h
         have hy : ¬ y = 0 := by simpa using hd
         refine ⟨_, by unfold VR; rfl, fun w => ?_⟩
         simp [binOp, Op.intDiv, hy])
    | (cases h)
theorem ashift_run {op : BinOp} {k k' : IntKind} {x y : Int} {v : AV} (h : ashift op k x y = some v) (t : TypeId) : ∃ u, VR ρ v u ∧ ∀ w, (binOp op t (.int k x) (.int k' y)).run P w = .ok u w := by
  unfold ashift at h
  split at h
  · cases h
  · rename_i hd
    have hy : ¬ y < 0 := by simpa using hd
    split at h
    · simp only [Option.some.injEq] at h; subst h
      refine ⟨_, by unfold VR; rfl, fun w => ?_⟩
      simp only [binOp, Op.shift, hy, if_false]
      rfl
    · simp only [Option.some.injEq] at h; subst h
      refine ⟨_, by unfold VR; rfl, fun w => ?_⟩
      simp only [binOp, Op.shift, hy, if_false]
      rfl
    · cases h
/-! numbers that are not known -/
omit [Nums] in
theorem SO.beq_eq : ∀ {a b : SO}, SO.beq a b = true → a = b := by
  intro a b h
  cases a <;> cases b <;> first | rfl | cases h
omit [Nums] in
theorem SE.beq_eq : ∀ {a b : SE}, SE.beq a b = true → a = b
  | .var i, b, h => by cases b <;> simp [SE.beq] at h; rw [h]
  | .lit n, b, h => by cases b <;> simp [SE.beq] at h; rw [h]
  | .bin o x y, b, h => by
    cases b <;> simp [SE.beq] at h
    rw [SO.beq_eq h.1, SE.beq_eq h.2.1, SE.beq_eq h.2.2]
  | .ubin o x y, b, h => by
    cases b <;> simp [SE.beq] at h
    rw [SO.beq_eq h.1, SE.beq_eq h.2.1, SE.beq_eq h.2.2]
  | .cv k x, b, h => by
    cases b <;> simp [SE.beq] at h
    rw [h.1, SE.beq_eq h.2]
  | .lvar i, b, h => by cases b <;> simp [SE.beq] at h; rw [h]
  | .lset l e j v, b, h => by
    cases b <;> simp [SE.beq] at h
    rw [SE.beq_eq h.1.1, SE.beq_eq h.1.2, h.2.1, SE.beq_eq h.2.2]
  | .lsnoc l r, b, h => by
    cases b <;> simp [SE.beq] at h
    rw [SE.beq_eq h.1, SE.beq_eq h.2]
  | .rnil, b, h => by cases b <;> simp [SE.beq] at h; rfl
  | .rep a, b, h => by
    cases b <;> simp [SE.beq] at h
    rw [SE.beq_eq h]
  | .rcons v r, b, h => by
    cases b <;> simp [SE.beq] at h
    rw [SE.beq_eq h.1, SE.beq_eq h.2]
  | .at l e j, b, h => by
    cases b <;> simp [SE.beq] at h
    rw [SE.beq_eq h.1, SE.beq_eq h.2.1, h.2.2]
  | .len l, b, h => by
    cases b <;> simp [SE.beq] at h
    rw [SE.beq_eq h]
omit [Nums] in
theorem Cnd.beq_eq : ∀ {a b : Cnd}, Cnd.beq a b = true → a = b
  | .lt a b, c, h => by
    cases c <;> simp [Cnd.beq] at h
    rw [SE.beq_eq h.1, SE.beq_eq h.2]
  | .eq a b, c, h => by
    cases c <;> simp [Cnd.beq] at h
    rw [SE.beq_eq h.1, SE.beq_eq h.2]
omit [Nums] in
theorem findLt_ok {σ : Nat → Int} {a b : SE} : ∀ {l : List (Cnd × Bool)} {r : Bool}, (∀ f ∈ l, f.1.ev σ = f.2) → findLt a b l = some r → decide (a.ev σ < b.ev σ) = r
  | [], r, _, h => by simp [findLt] at h
  | (.lt x y, q) :: l, r, hl, h => by
    unfold findLt at h
    split at h
    · rename_i hb
      rw [Bool.and_eq_true] at hb
      have e1 := SE.beq_eq hb.1
      have e2 := SE.beq_eq hb.2
      subst e1; subst e2
      cases h
      exact hl _ List.mem_cons_self
    · exact findLt_ok (fun f hf => hl f (List.mem_cons_of_mem _ hf)) h
  | (.eq x y, q) :: l, r, hl, h => by
    unfold findLt at h
    exact findLt_ok (fun f hf => hl f (List.mem_cons_of_mem _ hf)) h
omit [Nums] in
theorem findEq_ok {σ : Nat → Int} {a b : SE} : ∀ {l : List (Cnd × Bool)} {r : Bool}, (∀ f ∈ l, f.1.ev σ = f.2) → findEq a b l = some r → (a.ev σ == b.ev σ) = r
  | [], r, _, h => by simp [findEq] at h
  | (.eq x y, q) :: l, r, hl, h => by
    unfold findEq at h
    split at h
    · rename_i hb
      rw [Bool.and_eq_true] at hb
      have e1 := SE.beq_eq hb.1
      have e2 := SE.beq_eq hb.2
      subst e1; subst e2
      cases h
      exact hl _ List.mem_cons_self
    · exact findEq_ok (fun f hf => hl f (List.mem_cons_of_mem _ hf)) h
  | (.lt x y, q) :: l, r, hl, h => by
    unfold findEq at h
    exact findEq_ok (fun f hf => hl f (List.mem_cons_of_mem _ hf)) h
omit [Nums] in
theorem lowOf_ok {σ : Nat → Int} {a : SE} : ∀ (l : List (Cnd × Bool)) (m : Int), (∀ f ∈ l, f.1.ev σ = f.2) → lowOf a l = some m → m ≤ a.ev σ := by
  intro l
  induction l with
  | nil => intro m _ h; simp [lowOf] at h
  | cons f l ih =>
    intro m hl h
    have hl' : ∀ f ∈ l, f.1.ev σ = f.2 := fun f hf => hl f (List.mem_cons_of_mem _ hf)
    have h0 := hl f List.mem_cons_self
    unfold lowOf at h
    split at h
    · cases h
    · rename_i x n l' he
      cases he
      split at h
      · rename_i hb
        have e1 := SE.beq_eq hb
        subst e1
        have h1 : ¬ x.ev σ < n := of_decide_eq_false (show decide (x.ev σ < n) = false from h0)
        split at h
        · cases h; omega
        · rename_i q hq
          have h2 := ih _ hl' hq
          cases h
          split <;> omega
      · exact ih _ hl' h
    · rename_i n x l' he
      cases he
      split at h
      · rename_i hb
        have e1 := SE.beq_eq hb
        subst e1
        have h1 : n < x.ev σ := of_decide_eq_true (show decide (n < x.ev σ) = true from h0)
        split at h
        · cases h; omega
        · rename_i q hq
          have h2 := ih _ hl' hq
          cases h
          split <;> omega
      · exact ih _ hl' h
    · rename_i x n l' he
      cases he
      split at h
      · rename_i hb
        have e1 := SE.beq_eq hb
        subst e1
        have h1 : x.ev σ = n := eq_of_beq (show (x.ev σ == n) = true from h0)
        cases h
        omega
      · exact ih _ hl' h
    · rename_i q l' _ _ _ he
      cases he
      exact ih _ hl' h
omit [Nums] in
theorem highOf_ok {σ : Nat → Int} {a : SE} : ∀ (l : List (Cnd × Bool)) (m : Int), (∀ f ∈ l, f.1.ev σ = f.2) → highOf a l = some m → a.ev σ ≤ m := by
  intro l
  induction l with
  | nil => intro m _ h; simp [highOf] at h
  | cons f l ih =>
    intro m hl h
    have hl' : ∀ f ∈ l, f.1.ev σ = f.2 := fun f hf => hl f (List.mem_cons_of_mem _ hf)
    have h0 := hl f List.mem_cons_self
    unfold highOf at h
    split at h
    · cases h
    · rename_i x n l' he
      cases he
      split at h
      · rename_i hb
        have e1 := SE.beq_eq hb
        subst e1
        have h1 : x.ev σ < n := of_decide_eq_true (show decide (x.ev σ < n) = true from h0)
        split at h
        · cases h; omega
        · rename_i q hq
          have h2 := ih _ hl' hq
          cases h
          split <;> omega
      · exact ih _ hl' h
    · rename_i n x l' he
      cases he
      split at h
      · rename_i hb
        have e1 := SE.beq_eq hb
        subst e1
        have h1 : ¬ n < x.ev σ := of_decide_eq_false (show decide (n < x.ev σ) = false from h0)
        split at h
        · cases h; omega
        · rename_i q hq
          have h2 := ih _ hl' hq
          cases h
          split <;> omega
      · exact ih _ hl' h
    · rename_i x n l' he
      cases he
      split at h
      · rename_i hb
        have e1 := SE.beq_eq hb
        subst e1
        have h1 : x.ev σ = n := eq_of_beq (show (x.ev σ == n) = true from h0)
        cases h
        omega
      · exact ih _ hl' h
    · rename_i q l' _ _ _ he
      cases he
      exact ih _ hl' h
omit [Nums] in
theorem inI64_ok {lo hi a b x : Int} (h : inI64 lo hi = some (a, b)) (h1 : lo ≤ x) (h2 : x ≤ hi) : a ≤ IntKind.i64.wrap x ∧ IntKind.i64.wrap x ≤ b := by
  unfold inI64 at h
  split at h <;> first | (cases h; done) | skip
  rename_i hc
  rw [Bool.and_eq_true] at hc
  have c1 := of_decide_eq_true hc.1
  have c2 := of_decide_eq_true hc.2
  cases h
  rw [IntKind.wrap_i64]
  omega
omit [Nums] in
theorem ivAt_ok {σ : Nat → Int} {l : List (Cnd × Bool)} (hl : ∀ f ∈ l, f.1.ev σ = f.2) {e : SE} {lo hi : Int} (h : ivAt l e = some (lo, hi)) : lo ≤ e.ev σ ∧ e.ev σ ≤ hi := by
  unfold ivAt at h
  split at h <;> first | (cases h; done) | skip
  rename_i m hm
  split at h <;> first | (cases h; done) | skip
  rename_i q hq
  cases h
  exact ⟨lowOf_ok l _ hl hm, highOf_ok l _ hl hq⟩
omit [Nums] in
theorem ivOf_ok {σ : Nat → Int} {l : List (Cnd × Bool)} (hl : ∀ f ∈ l, f.1.ev σ = f.2) : ∀ {e : SE} {lo hi : Int}, ivOf l e = some (lo, hi) → lo ≤ e.ev σ ∧ e.ev σ ≤ hi
  | .lit n, lo, hi, h => by
    simp only [ivOf, Option.some.injEq, Prod.mk.injEq] at h
    obtain ⟨rfl, rfl⟩ := h
    exact ⟨Int.le_refl _, Int.le_refl _⟩
  | .var i, lo, hi, h => by
    unfold ivOf at h
    exact ivAt_ok hl h
  | .at _ _ _, lo, hi, h => by
    unfold ivOf at h
    exact ivAt_ok hl h
  | .len _, lo, hi, h => by
    unfold ivOf at h
    exact ivAt_ok hl h
  | .cv k a, lo, hi, h => by
    unfold ivOf at h
    split at h
    · split at h <;> first | (cases h; done) | skip
      rename_i la ha hia
      split at h <;> first | (cases h; done) | skip
      rename_i hc
      have hc := of_decide_eq_true hc
      obtain ⟨k1, k2⟩ := ivOf_ok hl hia
      obtain ⟨r1, r2⟩ := inI64_ok h k1 k2
      have e1 : IntKind.i64.wrap (a.ev σ) = a.ev σ ∧ 0 ≤ a.ev σ ∧ a.ev σ ≤ 9223372036854775807 := by
        unfold inI64 at h
        split at h <;> first | (cases h; done) | skip
        rename_i hd
        rw [Bool.and_eq_true] at hd
        have c1 := of_decide_eq_true hd.1
        have c2 := of_decide_eq_true hd.2
        rw [IntKind.wrap_i64]
        omega
      have e2 : IntKind.u64.wrap (a.ev σ) = a.ev σ := by
        simp only [IntKind.wrap, IntKind.signed, IntKind.bits, Bool.false_and, Bool.false_eq_true, if_false]
        omega
      simp only [SE.ev]
      rw [e2]
      rw [e1.1] at r1 r2
      exact ⟨r1, r2⟩
    · split at h <;> first | (cases h; done) | skip
      rename_i la ha hia
      obtain ⟨k1, k2⟩ := ivOf_ok hl hia
      simp only [SE.ev]
      exact inI64_ok h k1 k2
    · cases h
  | .bin o a b, lo, hi, h => by
    unfold ivOf at h
    split at h <;> first | (cases h; done) | skip
    rename_i la ha hia
    split at h <;> first | (cases h; done) | skip
    rename_i lb hb hib
    have k1 := ivOf_ok hl hia
    have k2 := ivOf_ok hl hib
    cases o with
    | add => exact inI64_ok h (by omega) (by omega)
    | sub => exact inI64_ok h (by omega) (by omega)
    | mul =>
      dsimp only at h
      split at h <;> first | (cases h; done) | skip
      rename_i hc
      rw [Bool.and_eq_true] at hc
      have c1 := of_decide_eq_true hc.1
      have c2 := of_decide_eq_true hc.2
      refine inI64_ok h ?_ ?_
      · exact Int.mul_le_mul k1.1 k2.1 c2 (by omega)
      · exact Int.mul_le_mul k1.2 k2.2 (by omega) (by omega)
    | quo =>
      dsimp only at h
      split at h <;> first | (cases h; done) | skip
      rename_i hc
      rw [Bool.and_eq_true] at hc
      have c1 := of_decide_eq_true hc.1
      have c2 := of_decide_eq_true hc.2
      simp only [SE.ev]
      refine inI64_ok h ?_ ?_
      · exact Int.tdiv_nonneg (by omega) (by omega)
      · refine Int.le_trans ?_ k1.2
        rw [Int.tdiv_eq_ediv_of_nonneg (by omega)]
        exact Int.ediv_le_self _ (by omega)
    | rem =>
      dsimp only at h
      split at h <;> first | (cases h; done) | skip
      rename_i hc
      rw [Bool.and_eq_true] at hc
      have c1 := of_decide_eq_true hc.1
      have c2 := of_decide_eq_true hc.2
      simp only [SE.ev]
      unfold inI64 at h
      split at h <;> first | (cases h; done) | skip
      cases h
      rw [Int.tmod_eq_emod_of_nonneg (by omega)]
      have h1 := Int.emod_nonneg (a.ev σ) (show b.ev σ ≠ 0 by omega)
      have h2 := Int.emod_lt_of_pos (a.ev σ) (show 0 < b.ev σ by omega)
      exact ⟨h1, by omega⟩
  | .ubin _ _ _, lo, hi, h => by simp [ivOf] at h
  | .lvar _, lo, hi, h => by simp [ivOf] at h
  | .lset _ _ _ _, lo, hi, h => by simp [ivOf] at h
  | .lsnoc _ _, lo, hi, h => by simp [ivOf] at h
  | .rnil, lo, hi, h => by simp [ivOf] at h
  | .rep _, lo, hi, h => by simp [ivOf] at h
  | .rcons _ _, lo, hi, h => by simp [ivOf] at h
theorem askLt_ok {a b : SE} {r : Bool} (h : askLt a b = some r) : decide (a.ev Nums.σ < b.ev Nums.σ) = r := by
  unfold askLt at h
  split at h
  · rename_i hb
    have e1 := SE.beq_eq hb
    subst e1
    cases h
    simp
  · split at h
    · rename_i q hq
      cases h
      exact findLt_ok Nums.ok hq
    · split at h <;> first | (cases h; done) | skip
      rename_i la ha hia
      split at h <;> first | (cases h; done) | skip
      rename_i lb hb hib
      have k1 := ivOf_ok Nums.ok hia
      have k2 := ivOf_ok Nums.ok hib
      split at h
      · rename_i hc
        have := of_decide_eq_true hc
        cases h
        exact decide_eq_true (by omega)
      · split at h <;> first | (cases h; done) | skip
        rename_i hc
        have := of_decide_eq_true hc
        cases h
        exact decide_eq_false (by omega)
theorem askEq_ok {a b : SE} {r : Bool} (h : askEq a b = some r) : (a.ev Nums.σ == b.ev Nums.σ) = r := by
  unfold askEq at h
  split at h
  · rename_i hb
    have e1 := SE.beq_eq hb
    subst e1
    cases h
    simp
  · split at h
    · rename_i q hq
      cases h
      exact findEq_ok Nums.ok hq
    · split at h <;> first | (cases h; done) | skip
      rename_i la ha hia
      split at h <;> first | (cases h; done) | skip
      rename_i lb hb hib
      have k1 := ivOf_ok Nums.ok hia
      have k2 := ivOf_ok Nums.ok hib
      split at h <;> first | (cases h; done) | skip
      rename_i hc
      cases h
      rw [beq_eq_false_iff_ne]
      rw [Bool.or_eq_true] at hc
      rcases hc with hc | hc
      · have := of_decide_eq_true hc; omega
      · have := of_decide_eq_true hc; omega
theorem askC_ok {c : Cnd} {r : Bool} (h : askC c = some r) : c.ev Nums.σ = r := by
  cases c with
  | lt a b => exact askLt_ok h
  | eq a b => exact askEq_ok h
theorem within_ok {e n : SE} (h : within e n = true) : 0 ≤ e.ev Nums.σ ∧ e.ev Nums.σ < n.ev Nums.σ := by
  unfold within at h
  split at h <;> first | (cases h; done) | skip
  rename_i h0
  split at h <;> first | (cases h; done) | skip
  rename_i h1
  have h0 := of_decide_eq_false (askLt_ok h0)
  have h1 := of_decide_eq_true (askLt_ok h1)
  simp only [SE.ev] at h0
  exact ⟨by omega, h1⟩
theorem litOf_ok {e : SE} {i : Int} (h : litOf e = some i) : e.ev Nums.σ = i := by
  unfold litOf at h
  split at h <;> first | (cases h; done) | skip
  rename_i lo hi hv
  split at h <;> first | (cases h; done) | skip
  rename_i hb
  have hb := eq_of_beq hb
  cases h
  have := ivOf_ok Nums.ok hv
  omega
theorem toSE_ok {x : AV} {k : IntKind} {a : SE} {u : Value} (h : toSE x = some (k, a)) (hx : VR ρ x u) : u = .int k (a.ev Nums.σ) := by
  unfold toSE at h
  split at h
  · cases h
    unfold VR at hx
    exact hx
  · cases h
    unfold VR at hx
    exact hx
  · cases h
omit [Nums] in
theorem le_not (x y : Int) : decide (x ≤ y) = !decide (y < x) := by
  by_cases h : y < x <;> simp [h] <;> omega
theorem symOp_run {op : BinOp} {x y v : AV} {u1 u2 : Value} (h : symOp op x y = some v) (hx : VR ρ x u1) (hy : VR ρ y u2) (t : TypeId) : ∃ u, VR ρ v u ∧ (∃ k a b, u1 = .int k a ∧ u2 = .int k b) ∧ ∀ w, (binOp op t u1 u2).run P w = .ok u w := by
  unfold symOp at h
  split at h <;> first | (cases h; done) | skip
  rename_i k a h1
  split at h <;> first | (cases h; done) | skip
  rename_i k' b h2
  have e1 := toSE_ok h1 hx
  have e2 := toSE_ok h2 hy
  subst e1; subst e2
  split at h <;> first | (cases h; done) | skip
  rename_i hk
  have hk := of_decide_eq_true hk
  subst hk
  split at h
  · split at h
    · rename_i hk
      have hk := of_decide_eq_true hk
      subst hk
      cases h
      exact ⟨_, by unfold VR; rfl, ⟨_, _, _, rfl, rfl⟩, fun w => by simp [binOp, Op.intArith, SE.ev]⟩
    · split at h <;> first | (cases h; done) | skip
      rename_i hk
      have hk := of_decide_eq_true hk
      subst hk
      cases h
      exact ⟨_, by unfold VR; rfl, ⟨_, _, _, rfl, rfl⟩, fun w => by simp [binOp, Op.intArith, SE.ev]⟩
  · split at h
    · rename_i hk
      have hk := of_decide_eq_true hk
      subst hk
      cases h
      exact ⟨_, by unfold VR; rfl, ⟨_, _, _, rfl, rfl⟩, fun w => by simp [binOp, Op.intArith, SE.ev]⟩
    · split at h <;> first | (cases h; done) | skip
      rename_i hk
      have hk := of_decide_eq_true hk
      subst hk
      cases h
      exact ⟨_, by unfold VR; rfl, ⟨_, _, _, rfl, rfl⟩, fun w => by simp [binOp, Op.intArith, SE.ev]⟩
  · split at h
    · rename_i hk
      have hk := of_decide_eq_true hk
      subst hk
      cases h
      exact ⟨_, by unfold VR; rfl, ⟨_, _, _, rfl, rfl⟩, fun w => by simp [binOp, Op.intArith, SE.ev]⟩
    · split at h <;> first | (cases h; done) | skip
      rename_i hk
      have hk := of_decide_eq_true hk
      subst hk
      cases h
      exact ⟨_, by unfold VR; rfl, ⟨_, _, _, rfl, rfl⟩, fun w => by simp [binOp, Op.intArith, SE.ev]⟩
  · split at h <;> first | (cases h; done) | skip
    rename_i hk
    have hk := of_decide_eq_true hk
    subst hk
    split at h <;> first | (cases h; done) | skip
    rename_i hr
    have hn : b.ev Nums.σ ≠ 0 := fun h0 => by
      have := askEq_ok hr
      rw [h0] at this
      simp [SE.ev] at this
    cases h
    exact ⟨_, by unfold VR; rfl, ⟨_, _, _, rfl, rfl⟩, fun w => by simp [binOp, Op.intDiv, SE.ev, hn]⟩
  · split at h <;> first | (cases h; done) | skip
    rename_i hk
    have hk := of_decide_eq_true hk
    subst hk
    split at h <;> first | (cases h; done) | skip
    rename_i hr
    have hn : b.ev Nums.σ ≠ 0 := fun h0 => by
      have := askEq_ok hr
      rw [h0] at this
      simp [SE.ev] at this
    cases h
    exact ⟨_, by unfold VR; rfl, ⟨_, _, _, rfl, rfl⟩, fun w => by simp [binOp, Op.intDiv, SE.ev, hn]⟩
  · split at h <;> first | (cases h; done) | skip
    rename_i r hr
    cases h
    have := askEq_ok hr
    exact ⟨_, by unfold VR; rfl, ⟨_, _, _, rfl, rfl⟩, fun w => by simp [binOp, Op.intCmp, ← this]⟩
  · split at h <;> first | (cases h; done) | skip
    rename_i r hr
    cases h
    have := askEq_ok hr
    exact ⟨_, by unfold VR; rfl, ⟨_, _, _, rfl, rfl⟩, fun w => by simp [binOp, Op.intCmp, ← this, bne]⟩
  · split at h <;> first | (cases h; done) | skip
    rename_i r hr
    cases h
    have := askLt_ok hr
    exact ⟨_, by unfold VR; rfl, ⟨_, _, _, rfl, rfl⟩, fun w => by simp [binOp, Op.intCmp, ← this]⟩
  · split at h <;> first | (cases h; done) | skip
    rename_i r hr
    cases h
    have := askLt_ok hr
    exact ⟨_, by unfold VR; rfl, ⟨_, _, _, rfl, rfl⟩, fun w => by simp [binOp, Op.intCmp, ← this, le_not]⟩
  · split at h <;> first | (cases h; done) | skip
    rename_i r hr
    cases h
    have := askLt_ok hr
    exact ⟨_, by unfold VR; rfl, ⟨_, _, _, rfl, rfl⟩, fun w => by simp [binOp, Op.intCmp, ← this]⟩
  · split at h <;> first | (cases h; done) | skip
    rename_i r hr
    cases h
    have := askLt_ok hr
    exact ⟨_, by unfold VR; rfl, ⟨_, _, _, rfl, rfl⟩, fun w => by simp [binOp, Op.intCmp, ← this, le_not]⟩
  · cases h
theorem aun_run {op : UnOp} {x v : AV} {y : Value} (h : aun op x = some v) (hx : VR ρ x y) : ∃ u, VR ρ v u ∧ ∀ w, (Op.unary op y).run P w = .ok u w := by
  unfold aun at h
  split at h
  · unfold VR at hx; subst hx
    simp only [Option.some.injEq] at h; subst h
    refine ⟨_, by unfold VR; rfl, fun w => ?_⟩
    simp [Op.unary, Op.intArith]
  · unfold VR at hx; subst hx
    simp only [Option.some.injEq] at h; subst h
    refine ⟨_, by unfold VR; rfl, fun w => ?_⟩
    simp [Op.unary, Op.intBits]
  · unfold VR at hx; subst hx
    simp only [Option.some.injEq] at h; subst h
    exact ⟨_, by unfold VR; rfl, fun w => rfl⟩
  · unfold VR at hx; subst hx
    simp only [Option.some.injEq] at h; subst h
    rename_i c p
    refine ⟨.bool (!(c.ev Nums.σ == p)), ?_, fun w => rfl⟩
    unfold VR
    congr 1
    cases c.ev Nums.σ <;> cases p <;> rfl
  · cases h
omit [Nums] in
theorem fields_of {t : TypeId} {fs : Array Field} (h : P.underlying t = some (.struct fs)) : P.fieldsOf t = fs := by simp [Program.fieldsOf, h]
/-- == -/
def EqR (P : Program) (ρ : Ren) (d : Nat) (rec : TypeId → AV → AV → Option Bool) : Prop :=
  ∀ t x y b u v, rec t x y = some b → VR ρ x u → VR ρ y v → ∀ w, (Op.equalIn d t u v).run P w = .ok b w
theorem aeqF_sound {d : Nat} {rec : TypeId → AV → AV → Option Bool} (hrec : EqR P ρ d rec) {xs ys : List AV} {a b : Array Value} (ha : VRs ρ xs a.toList) (hb : VRs ρ ys b.toList) :
    ∀ (fs : List Field) (r : Bool), aeqF P rec xs ys fs = some r → ∀ w, (Op.eqFields d a b fs).run P w = .ok r w
  | [], r, h, w => by simp [aeqF] at h; subst h; simp [Op.eqFields]
  | f :: fs, r, h, w => by
    unfold aeqF at h
    split at h
    · cases h
    · rename_i hn
      have hn : f.name ≠ "_" := by simpa using hn
      split at h
      · cases h
      · rename_i u hu
        split at h
        · cases h
        · rename_i v hv
          obtain ⟨x, hx, hxr⟩ := part_sound hu ha
          obtain ⟨y, hy, hyr⟩ := part_sound hv hb
          split at h
          · cases h
          · rename_i he
            simp only [Option.some.injEq] at h; subst h
            have := hrec _ _ _ _ _ _ he hx hy w
            simp [Op.eqFields, hn, hxr w, hyr w, this]
          · rename_i he
            have := hrec _ _ _ _ _ _ he hx hy w
            have ih := aeqF_sound hrec ha hb fs r h w
            simp [Op.eqFields, hn, hxr w, hyr w, this, ih]
theorem boolOf_ok {x : AV} {b : Bool} {u : Value} (h : boolOf x = some b) (hx : VR ρ x u) : u = .bool b := by
  unfold boolOf at h
  split at h <;> first | (cases h; done) | skip
  · cases h
    unfold VR at hx
    exact hx
  · split at h <;> first | (cases h; done) | skip
    rename_i q hq
    cases h
    unfold VR at hx
    rw [hx, askC_ok hq]
theorem aeq_sound : ∀ (d e : Nat), EqR P ρ (d + e) (aeq P d)
  | 0, _, t, x, y, b, u, v, h, _, _, _ => by simp [aeq] at h
  | d + 1, e, t, x, y, b, u, v, h, hx, hy, w => by
    rw [show d + 1 + e = (d + e) + 1 from by omega]
    unfold aeq at h
    split at h
    · rename_i hu
      split at h
      · unfold VR at hx hy; subst hx; subst hy; cases h
        exact run_equalIn_bool w _ t _ _ hu
      · split at h <;> first | (cases h; done) | skip
        rename_i a h1
        split at h <;> first | (cases h; done) | skip
        rename_i b' h2
        have e1 := boolOf_ok h1 hx
        have e2 := boolOf_ok h2 hy
        subst e1; subst e2; cases h
        exact run_equalIn_bool w _ t _ _ hu
    · rename_i k0 hu
      split at h
      · unfold VR at hx hy; subst hx; subst hy
        split at h
        · rename_i hk
          have hk := of_decide_eq_true hk
          subst hk; cases h
          exact run_equalIn_int w _ t _ _ _ _ hu
        · cases h
      · split at h <;> first | (cases h; done) | skip
        rename_i k a k' b h1 h2
        have e1 := toSE_ok h1 hx
        have e2 := toSE_ok h2 hy
        subst e1; subst e2
        split at h <;> first | (cases h; done) | skip
        rename_i hk
        have hk := of_decide_eq_true hk
        subst hk
        rw [← askEq_ok h]
        exact run_equalIn_int w _ t _ _ _ _ hu
    · rename_i e0 hu
      split at h
      · unfold VR at hx hy; subst hx; subst hy; cases h
        simp [Op.equalIn, run_underlying hu]
      · unfold VR at hx hy; subst hx; obtain ⟨_, _, _, rfl⟩ := hy; cases h
        simp [Op.equalIn, run_underlying hu]
      · unfold VR at hx hy; subst hy; obtain ⟨_, _, _, rfl⟩ := hx; cases h
        simp [Op.equalIn, run_underlying hu]
      · unfold VR at hx hy; subst hy; obtain ⟨_, _, _, rfl⟩ := hx; cases h
        simp [Op.equalIn, run_underlying hu]
      · cases h
    · rename_i e0 hu
      split at h
      · unfold VR at hx hy; subst hx; subst hy; cases h
        simp [Op.equalIn, run_underlying hu]
      · unfold VR at hx hy; subst hx; obtain ⟨_, _, _, _, rfl, _⟩ := hy; cases h
        simp [Op.equalIn, run_underlying hu]
      · unfold VR at hx hy; subst hy; obtain ⟨_, _, _, _, rfl, _⟩ := hx; cases h
        simp [Op.equalIn, run_underlying hu]
      · unfold VR at hx hy; subst hx; obtain ⟨_, _, rfl⟩ := hy; cases h
        simp [Op.equalIn, run_underlying hu]
      · unfold VR at hx hy; subst hy; obtain ⟨_, _, rfl⟩ := hx; cases h
        simp [Op.equalIn, run_underlying hu]
      · unfold VR at hx hy; subst hy; obtain ⟨_, _, _, _, _, rfl, _⟩ := hx; cases h
        simp [Op.equalIn, run_underlying hu]
      · unfold VR at hx hy; subst hy; obtain ⟨_, _, _, _, rfl, _⟩ := hx; cases h
        simp [Op.equalIn, run_underlying hu]
      · cases h
    · rename_i e0 e1 hu
      split at h
      · unfold VR at hx hy; subst hx; subst hy; cases h
        simp [Op.equalIn, run_underlying hu]
      · unfold VR at hx hy; subst hx; obtain ⟨_, _, _, rfl⟩ := hy; cases h
        simp [Op.equalIn, run_underlying hu]
      · unfold VR at hx hy; subst hy; obtain ⟨_, _, _, rfl⟩ := hx; cases h
        simp [Op.equalIn, run_underlying hu]
      · cases h
    · rename_i e0 e1 e2 hu
      split at h
      · unfold VR at hx hy; subst hx; subst hy; cases h
        simp [Op.equalIn, run_underlying hu]
      · unfold VR at hx hy; subst hx; obtain ⟨_, _, rfl, _⟩ := hy; cases h
        simp [Op.equalIn, run_underlying hu]
      · unfold VR at hx hy; subst hy; obtain ⟨_, _, rfl, _⟩ := hx; cases h
        simp [Op.equalIn, run_underlying hu]
      · cases h
    · rename_i fs hu
      split at h
      · rename_i xs ys
        unfold VR at hx hy
        obtain ⟨a, rfl, ha⟩ := hx
        obtain ⟨b', rfl, hb⟩ := hy
        split at h
        · cases h
        · rename_i hst
          have hf := fields_of hu
          rw [run_equalIn_struct w _ t a b' (by rw [hf]; exact hu) hst, hf]
          exact aeqF_sound (aeq_sound d e) ha hb _ _ h w
      · cases h
    · cases h
theorem guard_run {op : BinOp} {t : TypeId} {x y : AV} {u v : Value} (h : guardOk P t x y = true) (hx : VR ρ x u) (hy : VR ρ y v) (ox oy : Operand) (w : World) : (eqGuard op t ox oy u v).run P w = .ok () w := by
  have key : ∀ (u v : Value), (∀ a b, u = .agg a → v = .agg b → False) → (u = .nilIface → v = .nilIface → False) → (eqGuard op t ox oy u v).run P w = .ok () w := by
    intro u v h1 h2
    unfold eqGuard
    cases op <;> first
      | rfl
      | (cases u <;> cases v <;> first
          | rfl
          | (exact (h1 _ _ rfl rfl).elim)
          | (exact (h2 rfl rfl).elim))
  have hagg : ∀ {z : AV} {q : Value} {c : Array Value}, VR ρ z q → q = .agg c → ∃ l, z = .agg l := by
    intro z q c hz hq
    subst hq
    cases z <;> simp [VR] at hz <;> exact ⟨_, rfl⟩
  have hnil : ∀ {z : AV} {q : Value}, VR ρ z q → q = .nilIface → z = .nilif := by
    intro z q hz hq
    subst hq
    cases z <;> simp [VR] at hz <;> rfl
  unfold guardOk at h
  split at h
  · rename_i l m
    split at h
    · cases h
    · rename_i hm
      unfold VR at hx hy
      obtain ⟨a, rfl, _⟩ := hx
      obtain ⟨b, rfl, _⟩ := hy
      exact run_eqGuard_agg w op t ox oy a b hm
  · cases h
  · rename_i h1 h2
    refine key u v ?_ ?_
    · intro a b ha hb
      obtain ⟨l, rfl⟩ := hagg hx ha
      obtain ⟨m, rfl⟩ := hagg hy hb
      exact h1 l m rfl rfl
    · intro ha hb
      exact h2 (hnil hx ha) (hnil hy hb)
end
end Go.Proofs.YtfgomgodfcdijaaGreatDoor.Ex
