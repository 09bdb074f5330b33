/-
  The runner: memory over names against the model's worlds; how a step changes both. No condition.
-/
import Derived.Test.YtigakendeghoaaaExC
namespace Go.Proofs.Ytigakendeghoaaa.Ex
open Go
variable [Nums]

def MR (ρ : Ren) : List (AV × AV) → List MapEntry → Prop
  | [], l => l = []
  | p :: ps, l => ∃ e es, l = e :: es ∧ VR ρ p.1 e.key ∧ VR ρ p.2 e.val ∧ MR ρ ps es
def OR (ρ : Ren) (o : AO) (s : Nat) (x : Option Obj) : Prop := match o with
  | .cells cs k e => ∃ cur : Array Value, x = some (.cells cur e (0, 0)) ∧ cur.size = s ∧ k ≤ s ∧ ∀ i v, cs.get i = some v → v.one = true ∧ ∃ y, cur[i]? = some y ∧ VR ρ v y
  | .map es => ∃ (xs : Array MapEntry) (clock : Nat), x = some (.map xs clock) ∧ MR ρ es xs.toList
/-- tables of numbers, as memory holds them -/
def Tabs (gs : List (Nat × List Int)) (w : World) : Prop := ∀ g l, findG g gs = some l → ∃ e q, w.heap[g]? = some (.cells (l.map (Value.int .i64)).toArray e q)
/-- what is known of memory: blocks by names -/
structure HR (ρ : Ren) (g : Nat → Option AO) (nx : Nat) (w : World) : Prop where
  fresh : ∀ n, nx ≤ n → ρ n = none
  obj : ∀ n o, g n = some o → ∃ b s, ρ n = some (b, s) ∧ OR ρ o s w.heap[b]?
  inj : ∀ n m b s s', (g n).isSome = true → (g m).isSome = true → ρ n = some (b, s) → ρ m = some (b, s') → n = m
  gl : Tabs Fc.globs w
  gn : ∀ b l, findG b Fc.globs = some l → ∀ n s, (g n).isSome = true → ρ n ≠ some (b, s)
structure Stp (ρ : Ren) (g : Nat → Option AO) (nx : Nat) (w : World) (ρ' : Ren) (g' : Nat → Option AO) (nx' : Nat) (w' : World) : Prop where
  hr : HR ρ' g' nx' w'
  ext : ∀ n, n < nx → ρ' n = ρ n
  gr : nx ≤ nx'
  os : w'.os = w.os
  tape : w'.tape = w.tape
  output : w'.output = w.output
  size : w.heap.size ≤ w'.heap.size
  block : ∀ b, b < w.heap.size → (∀ n s, (g n).isSome = true → ρ n ≠ some (b, s)) → w'.heap[b]? = w.heap[b]?
  live : ∀ n b s, (g' n).isSome = true → ρ' n = some (b, s) → w.heap.size ≤ b ∨ ∃ m s', (g m).isSome = true ∧ ρ m = some (b, s')
  dom : ∀ n, n < nx → (g' n).isSome = true → (g n).isSome = true
section
variable {ρ ρ' ρ1 : Ren} {g g' g1 : Nat → Option AO} {nx nx' n1 : Nat} {w w' w1 : World}
theorem MR.mono (hρ : ∀ n p, ρ n = some p → ρ' n = some p) : ∀ {ps : List (AV × AV)} {l : List MapEntry}, MR ρ ps l → MR ρ' ps l
  | [], _, h => h
  | _ :: _, _, h => by
    obtain ⟨e, es, h1, h2, h3, h4⟩ := h
    exact ⟨e, es, h1, h2.mono hρ, h3.mono hρ, MR.mono hρ h4⟩
theorem OR.mono (hρ : ∀ n p, ρ n = some p → ρ' n = some p) {o : AO} {s : Nat} {x : Option Obj} (h : OR ρ o s x) : OR ρ' o s x := by
  cases o with
  | cells cs k e =>
    obtain ⟨cur, h1, h2, h3, h4⟩ := h
    exact ⟨cur, h1, h2, h3, fun i v hv => by
      obtain ⟨ho, y, hy, hr⟩ := h4 i v hv
      exact ⟨ho, y, hy, hr.mono hρ⟩⟩
  | map es =>
    obtain ⟨xs, c, h1, h2⟩ := h
    exact ⟨xs, c, h1, h2.mono hρ⟩
theorem HR.lt (h : HR ρ g nx w) {n : Nat} {p : Nat × Nat} (hp : ρ n = some p) : n < nx := by
  rcases Nat.lt_or_ge n nx with hlt | hge
  · exact hlt
  · rw [h.fresh n hge] at hp; cases hp
theorem HR.sub (h : HR ρ g nx w) (hs : ∀ n o, g' n = some o → g n = some o) : HR ρ g' nx w := by
  have hi : ∀ n, (g' n).isSome = true → (g n).isSome = true := fun n hn => by
    cases hg : g' n with
    | none => rw [hg] at hn; cases hn
    | some o => rw [hs n o hg]; rfl
  exact ⟨h.fresh, fun n o ho => h.obj n o (hs n o ho), fun n m b s s' hn hm => h.inj n m b s s' (hi n hn) (hi m hm), h.gl, fun b l hl n s hn => h.gn b l hl n s (hi n hn)⟩
/-- tables stay where named blocks alone change -/
theorem HR.tables (h : HR ρ g nx w) (hb : ∀ b, b < w.heap.size → (∀ n s, (g n).isSome = true → ρ n ≠ some (b, s)) → w'.heap[b]? = w.heap[b]?)
    (hl : ∀ n b s, (g' n).isSome = true → ρ' n = some (b, s) → w.heap.size ≤ b ∨ ∃ m s', (g m).isSome = true ∧ ρ m = some (b, s')) :
    Tabs Fc.globs w' ∧ ∀ b l, findG b Fc.globs = some l → ∀ n s, (g' n).isSome = true → ρ' n ≠ some (b, s) := by
  have hlt : ∀ b l, findG b Fc.globs = some l → b < w.heap.size := fun b l hf => by
    obtain ⟨e, q, he⟩ := h.gl b l hf
    exact (Array.getElem?_eq_some_iff.1 he).1
  refine ⟨fun b l hf => ?_, fun b l hf n s hn hp => ?_⟩
  · rw [hb b (hlt b l hf) (h.gn b l hf)]
    exact h.gl b l hf
  · rcases hl n b s hn hp with h1 | ⟨m, s', h1, h2⟩
    · have := hlt b l hf
      omega
    · exact h.gn b l hf m s' h1 h2
theorem HR.drew (h : HR ρ g nx w) (n : Nat) : HR ρ g nx { w with drawn := n } := ⟨h.fresh, h.obj, h.inj, h.gl, h.gn⟩
theorem HR.up (h : HR ρ g nx w) {nx' : Nat} (hn : nx ≤ nx') : HR ρ g nx' w := ⟨fun n hn' => h.fresh n (by omega), h.obj, h.inj, h.gl, h.gn⟩
theorem Stp.refl (h : HR ρ g nx w) : Stp ρ g nx w ρ g nx w :=
  ⟨h, fun _ _ => rfl, Nat.le_refl _, rfl, rfl, rfl, Nat.le_refl _, fun _ _ _ => rfl, fun n b s hn hp => .inr ⟨n, s, hn, hp⟩, fun _ _ h => h⟩
theorem Stp.mono (h0 : HR ρ g nx w) (h : Stp ρ g nx w ρ' g' nx' w') : ∀ n p, ρ n = some p → ρ' n = some p :=
  fun n p hp => (h.ext n (h0.lt hp)).trans hp
theorem Stp.trans {ρ2 : Ren} {g2 : Nat → Option AO} {n2 : Nat} {w2 : World} (h : Stp ρ g nx w ρ1 g1 n1 w1) (k : Stp ρ1 g1 n1 w1 ρ2 g2 n2 w2) : Stp ρ g nx w ρ2 g2 n2 w2 := by
  refine ⟨k.hr, fun n hn => (k.ext n (Nat.lt_of_lt_of_le hn h.gr)).trans (h.ext n hn), Nat.le_trans h.gr k.gr, k.os.trans h.os, k.tape.trans h.tape, k.output.trans h.output, Nat.le_trans h.size k.size, ?_, ?_, fun n hn h2 => h.dom n hn (k.dom n (Nat.lt_of_lt_of_le hn h.gr) h2)⟩
  · intro b hb hl
    refine (k.block b (Nat.lt_of_lt_of_le hb h.size) fun n s hn hp => ?_).trans (h.block b hb hl)
    rcases h.live n b s hn hp with h1 | ⟨m, s', h1, h2⟩
    · omega
    · exact hl m s' h1 h2
  · intro n b s hn hp
    rcases k.live n b s hn hp with h1 | ⟨m, s', h1, h2⟩
    · exact .inl (Nat.le_trans h.size h1)
    · exact h.live m b s' h1 h2
theorem Stp.sub (h : Stp ρ g nx w ρ' g' nx' w') (hs : ∀ n o, g1 n = some o → g' n = some o) : Stp ρ g nx w ρ' g1 nx' w' := by
  have hI : ∀ n, (g1 n).isSome = true → (g' n).isSome = true := fun n hn => by
    cases hg : g1 n with
    | none => rw [hg] at hn; cases hn
    | some o => rw [hs n o hg]; rfl
  exact ⟨h.hr.sub hs, h.ext, h.gr, h.os, h.tape, h.output, h.size, h.block, fun n b s hn => h.live n b s (hI n hn), fun n hn h1 => h.dom n hn (hI n h1)⟩
theorem Stp.drew (h : Stp ρ g nx { w with drawn := w.drawn + 1 } ρ' g' nx' w') : Stp ρ g nx w ρ' g' nx' w' :=
  ⟨h.hr, h.ext, h.gr, h.os, h.tape, h.output, h.size, h.block, h.live, h.dom⟩
/-- from fewer blocks known: the others stay -/
theorem Stp.frame {B : Nat → Option AO} (h0 : HR ρ B nx w) (hs : ∀ n o, g n = some o → B n = some o) (h : Stp ρ g nx w ρ' g' nx' w') (F : Nat → Option AO)
    (hF : ∀ n o, F n = some o → (B n = some o ∧ g n = none) ∨ g' n = some o) : Stp ρ B nx w ρ' F nx' w' := by
  have hm := h.mono (h0.sub hs)
  have hgB : ∀ n, (g n).isSome = true → (B n).isSome = true := fun n hn => by
    cases hg : g n with
    | none => rw [hg] at hn; cases hn
    | some o => rw [hs n o hg]; rfl
  have hkeep : ∀ n o b s, B n = some o → g n = none → ρ n = some (b, s) → w'.heap[b]? = w.heap[b]? ∧ b < w.heap.size := by
    intro n o b s hB hg hp
    obtain ⟨b', s', hp', hO⟩ := h0.obj n o hB
    rw [hp] at hp'
    cases hp'
    have hlt : b < w.heap.size := by
      rcases Nat.lt_or_ge b w.heap.size with hlt | hge
      · exact hlt
      · rw [Array.getElem?_eq_none hge] at hO
        cases o with
        | cells cs k e => obtain ⟨_, h1, _⟩ := hO; cases h1
        | map es => obtain ⟨_, _, h1, _⟩ := hO; cases h1
    refine ⟨h.block b hlt fun m s' hm' hp' => ?_, hlt⟩
    have := h0.inj n m b s s' (by rw [hB]; rfl) (hgB m hm') hp hp'
    subst this
    rw [hg] at hm'
    cases hm'
  refine ⟨⟨h.hr.fresh, ?_, ?_, h.hr.gl, fun b l hf n s hn hp => by
    obtain ⟨o, ho⟩ := Option.isSome_iff_exists.1 hn
    rcases hF n o ho with ⟨h1, h2⟩ | h1
    · obtain ⟨b1, s1, hp1, _⟩ := h0.obj n o h1
      have e1 := hm _ _ hp1
      rw [hp] at e1
      cases e1
      exact h0.gn b l hf n s (by rw [h1]; rfl) hp1
    · exact h.hr.gn b l hf n s (by rw [h1]; rfl) hp⟩, h.ext, h.gr, h.os, h.tape, h.output, h.size, ?_, ?_, fun n hn hF1 => by
    obtain ⟨o, ho⟩ := Option.isSome_iff_exists.1 hF1
    rcases hF n o ho with ⟨h1, _⟩ | h1
    · rw [h1]; rfl
    · exact hgB n (h.dom n hn (by rw [h1]; rfl))⟩
  · intro n o hn
    rcases hF n o hn with ⟨h1, h2⟩ | h1
    · obtain ⟨b, s, hp, hO⟩ := h0.obj n o h1
      refine ⟨b, s, hm _ _ hp, ?_⟩
      rw [(hkeep n o b s h1 h2 hp).1]
      exact hO.mono hm
    · exact h.hr.obj n o h1
  · intro n m b s s' hn hm' hp hp'
    obtain ⟨o, ho⟩ := Option.isSome_iff_exists.1 hn
    obtain ⟨o', ho'⟩ := Option.isSome_iff_exists.1 hm'
    have cross : ∀ (n m : Nat) (o o' : AO) (s s' : Nat), B n = some o → g n = none → g' m = some o' → ρ' n = some (b, s) → ρ' m = some (b, s') → n = m := by
      intro n m o o' s s' h1 h2 h3 h4 h5
      obtain ⟨b1, s1, hp1, _⟩ := h0.obj n o h1
      have h6 := hm _ _ hp1
      rw [h4] at h6
      cases h6
      have hlt := (hkeep n o b s h1 h2 hp1).2
      rcases h.live m b s' (by rw [h3]; rfl) h5 with h7 | ⟨q, s2, h7, h8⟩
      · omega
      · have := h0.inj n q b s s2 (by rw [h1]; rfl) (hgB q h7) hp1 h8
        subst this
        rw [h2] at h7
        cases h7
    rcases hF n o ho with ⟨h1, h2⟩ | h1 <;> rcases hF m o' ho' with ⟨h3, h4⟩ | h3
    · obtain ⟨b1, s1, hp1, _⟩ := h0.obj n o h1
      obtain ⟨b2, s2, hp2, _⟩ := h0.obj m o' h3
      have e1 := hm _ _ hp1
      have e2 := hm _ _ hp2
      rw [hp] at e1
      rw [hp'] at e2
      cases e1
      cases e2
      exact h0.inj n m b s s' (by rw [h1]; rfl) (by rw [h3]; rfl) hp1 hp2
    · exact cross n m o o' s s' h1 h2 h3 hp hp'
    · exact (cross m n o' o s' s h3 h4 h1 hp' hp).symm
    · exact h.hr.inj n m b s s' (by rw [h1]; rfl) (by rw [h3]; rfl) hp hp'
  · intro b hb hl
    exact h.block b hb fun n s hn hp => hl n s (hgB n hn) hp
  · intro n b s hn hp
    obtain ⟨o, ho⟩ := Option.isSome_iff_exists.1 hn
    rcases hF n o ho with ⟨h1, h2⟩ | h1
    · obtain ⟨b1, s1, hp1, _⟩ := h0.obj n o h1
      have e1 := hm _ _ hp1
      rw [hp] at e1
      cases e1
      exact .inr ⟨n, s, by rw [h1]; rfl, hp1⟩
    · rcases h.live n b s (by rw [h1]; rfl) hp with h7 | ⟨q, s2, h7, h8⟩
      · exact .inl h7
      · exact .inr ⟨q, s2, hgB q h7, h8⟩

/-- a name is given -/
def upd (ρ : Ren) (n : Nat) (p : Nat × Nat) : Ren := fun m => if m = n then some p else ρ m
/-- a block is made, or a name's block is found anew: the old one, or a new one -/
theorem Stp.name (h : HR ρ g nx w) (n : Nat) (hn : ρ n = none) (nx' : Nat) (hnx : nx ≤ nx') (hlt : n < nx') (hb0 : nx ≤ n ∨ True) {b s : Nat} {o : AO} (hO : OR ρ o s w'.heap[b]?)
    (os : w'.os = w.os) (tape : w'.tape = w.tape) (output : w'.output = w.output) (size : w.heap.size ≤ w'.heap.size)
    (hk : ∀ c, c < w.heap.size → c ≠ b → w'.heap[c]? = w.heap[c]?)
    (hfree : ∀ m s', (g1 m).isSome = true → ρ m ≠ some (b, s')) (hown : w.heap.size ≤ b ∨ ∃ m s', (g m).isSome = true ∧ ρ m = some (b, s'))
    (hg1 : ∀ m o, g1 m = some o → g m = some o) (hg' : ∀ m o', g' m = some o' → (m = n ∧ o' = o) ∨ (m ≠ n ∧ g1 m = some o')) :
    HR (upd ρ n (b, s)) g' nx' w' ∧ (∀ m p, ρ m = some p → upd ρ n (b, s) m = some p) ∧ (nx ≤ n → Stp ρ g nx w (upd ρ n (b, s)) g' nx' w') := by
  have hm : ∀ m p, ρ m = some p → upd ρ n (b, s) m = some p := fun m p hp => by
    unfold upd
    rw [if_neg (fun he => by rw [he, hn] at hp; cases hp)]
    exact hp
  have hI : ∀ m, (g1 m).isSome = true → (g m).isSome = true := fun m hm' => by
    obtain ⟨o, ho⟩ := Option.isSome_iff_exists.1 hm'
    rw [hg1 m o ho]; rfl
  have hblk : ∀ m o' c s', g1 m = some o' → ρ m = some (c, s') → w'.heap[c]? = w.heap[c]? := by
    intro m o' c s' hgm hp
    obtain ⟨c1, s1, hp1, hO1⟩ := h.obj m o' (hg1 m o' hgm)
    rw [hp] at hp1
    cases hp1
    have hlt' : c < w.heap.size := by
      rcases Nat.lt_or_ge c w.heap.size with hlt | hge
      · exact hlt
      · rw [Array.getElem?_eq_none hge] at hO1
        cases o' with
        | cells cs k e => obtain ⟨_, h1, _⟩ := hO1; cases h1
        | map es => obtain ⟨_, _, h1, _⟩ := hO1; cases h1
    exact hk c hlt' fun he => hfree m s' (by rw [hgm]; rfl) (by rw [hp, he])
  have hT := h.tables (w' := w') (g' := g') (ρ' := upd ρ n (b, s)) (fun c hc hl => hk c hc fun he => by
      rcases hown with h1 | ⟨m, s', h1, h2⟩
      · omega
      · exact hl m s' h1 (by rw [h2, he])) (fun m c s1 hs hp => by
    obtain ⟨o1, ho1⟩ := Option.isSome_iff_exists.1 hs
    rcases hg' m o1 ho1 with ⟨rfl, rfl⟩ | ⟨hne, h3⟩
    · simp only [upd, if_true] at hp
      cases hp
      exact hown
    · simp only [upd, if_neg hne] at hp
      exact .inr ⟨m, s1, hI m (by rw [h3]; rfl), hp⟩)
  have hr : HR (upd ρ n (b, s)) g' nx' w' := by
    refine ⟨?_, ?_, ?_, hT.1, hT.2⟩
    · intro m hm'
      unfold upd
      rw [if_neg (by omega)]
      exact h.fresh m (by omega)
    · intro m o' ho'
      rcases hg' m o' ho' with ⟨rfl, rfl⟩ | ⟨hne, h1⟩
      · exact ⟨b, s, by simp [upd], hO.mono hm⟩
      · obtain ⟨c, s', hp, hO1⟩ := h.obj m o' (hg1 m o' h1)
        refine ⟨c, s', hm _ _ hp, ?_⟩
        rw [hblk m o' c s' h1 hp]
        exact hO1.mono hm
    · intro m q c s1 s2 h1 h2 hp hq
      obtain ⟨o1, ho1⟩ := Option.isSome_iff_exists.1 h1
      obtain ⟨o2, ho2⟩ := Option.isSome_iff_exists.1 h2
      rcases hg' m o1 ho1 with ⟨rfl, rfl⟩ | ⟨hne, h3⟩ <;> rcases hg' q o2 ho2 with ⟨rfl, rfl⟩ | ⟨hne', h4⟩
      · rfl
      · simp only [upd, if_true] at hp
        cases hp
        simp only [upd, if_neg hne'] at hq
        exact absurd hq (hfree q s2 (by rw [h4]; rfl))
      · simp only [upd, if_true] at hq
        cases hq
        simp only [upd, if_neg hne] at hp
        exact absurd hp (hfree m s1 (by rw [h3]; rfl))
      · simp only [upd, if_neg hne] at hp
        simp only [upd, if_neg hne'] at hq
        exact h.inj m q c s1 s2 (hI m (by rw [h3]; rfl)) (hI q (by rw [h4]; rfl)) hp hq
  refine ⟨hr, hm, fun hge => ⟨hr, fun m hm' => ?_, hnx, os, tape, output, size, ?_, ?_, fun m hm' h1 => by
    obtain ⟨o', ho'⟩ := Option.isSome_iff_exists.1 h1
    rcases hg' m o' ho' with ⟨rfl, _⟩ | ⟨_, h3⟩
    · omega
    · exact hI m (by rw [h3]; rfl)⟩⟩
  · unfold upd
    rw [if_neg (by omega)]
  · intro c hc hl
    refine hk c hc fun he => ?_
    rcases hown with h1 | ⟨m, s', h1, h2⟩
    · omega
    · exact hl m s' h1 (by rw [h2, he])
  · intro m c s1 hs hp
    obtain ⟨o1, ho1⟩ := Option.isSome_iff_exists.1 hs
    rcases hg' m o1 ho1 with ⟨rfl, rfl⟩ | ⟨hne, h3⟩
    · simp only [upd, if_true] at hp
      cases hp
      exact hown
    · simp only [upd, if_neg hne] at hp
      exact .inr ⟨m, s1, hI m (by rw [h3]; rfl), hp⟩
/-- a block is made, under a name that was kept for it -/
theorem Stp.kept {ρ0 : Ren} {g0 : Nat → Option AO} {n0 : Nat} {w0 : World} (h : Stp ρ0 g0 n0 w0 ρ g nx w) (n : Nat) (hn : ρ n = none) (hge : n0 ≤ n) (hlt : n < nx) {s : Nat} {o : AO} {obj : Obj} (hO : OR ρ o s (some obj))
    (hw : w'.heap = w.heap.push obj) (os : w'.os = w.os) (tape : w'.tape = w.tape) (output : w'.output = w.output)
    (hg' : ∀ m o', g' m = some o' → (m = n ∧ o' = o) ∨ (m ≠ n ∧ g m = some o')) :
    Stp ρ0 g0 n0 w0 (upd ρ n (w.heap.size, s)) g' nx w' ∧ (∀ m p, ρ m = some p → upd ρ n (w.heap.size, s) m = some p) := by
  have hfree : ∀ m s', (g m).isSome = true → ρ m ≠ some (w.heap.size, s') := by
    intro m s' hm hp
    obtain ⟨o', ho'⟩ := Option.isSome_iff_exists.1 hm
    obtain ⟨b, s1, hb, hO1⟩ := h.hr.obj m o' ho'
    rw [hp] at hb
    cases hb
    rw [Array.getElem?_eq_none (Nat.le_refl _)] at hO1
    cases o' with
    | cells cs k e => obtain ⟨_, h1, _⟩ := hO1; cases h1
    | map es => obtain ⟨_, _, h1, _⟩ := hO1; cases h1
  have hold : ∀ c, c < w.heap.size → w'.heap[c]? = w.heap[c]? := fun c hc => by rw [hw, Array.getElem?_push_lt hc, Array.getElem?_eq_getElem hc]
  obtain ⟨hr, hm, _⟩ := Stp.name (g1 := g) (g' := g') (o := o) (w' := w') h.hr n hn nx (Nat.le_refl _) hlt (.inr trivial) (b := w.heap.size) (s := s) (by rw [hw]; simpa using hO) os tape output (by rw [hw]; simp)
    (fun c hc _ => hold c hc) hfree (.inl (Nat.le_refl _)) (fun _ _ h => h) hg'
  refine ⟨⟨hr, fun m hm' => ?_, h.gr, os.trans h.os, tape.trans h.tape, output.trans h.output, by rw [hw]; simp; exact Nat.le_succ_of_le h.size, ?_, ?_, ?_⟩, hm⟩
  · unfold upd
    rw [if_neg (by omega)]
    exact h.ext m hm'
  · intro b hb hl
    rw [hold b (Nat.lt_of_lt_of_le hb h.size)]
    exact h.block b hb hl
  · intro m c s1 hs hp
    obtain ⟨o1, ho1⟩ := Option.isSome_iff_exists.1 hs
    rcases hg' m o1 ho1 with ⟨rfl, rfl⟩ | ⟨hne, h3⟩
    · simp only [upd, if_true] at hp
      cases hp
      exact .inl h.size
    · simp only [upd, if_neg hne] at hp
      exact h.live m c s1 (by rw [h3]; rfl) hp
  · intro m hm' h1
    obtain ⟨o1, ho1⟩ := Option.isSome_iff_exists.1 h1
    rcases hg' m o1 ho1 with ⟨rfl, _⟩ | ⟨_, h3⟩
    · omega
    · exact h.dom m hm' (by rw [h3]; rfl)
/-- a block is changed -/
theorem Stp.change (h : HR ρ g nx w) {n b s : Nat} (hn : (g n).isSome = true) (hp : ρ n = some (b, s)) {o : AO} (hO : OR ρ o s w'.heap[b]?)
    (os : w'.os = w.os) (tape : w'.tape = w.tape) (output : w'.output = w.output) (size : w.heap.size ≤ w'.heap.size)
    (hk : ∀ c, c < w.heap.size → c ≠ b → w'.heap[c]? = w.heap[c]?)
    (hg' : ∀ m o', g' m = some o' → (m = n ∧ o' = o) ∨ (m ≠ n ∧ g m = some o')) : Stp ρ g nx w ρ g' nx w' := by
  have hI : ∀ m, (g' m).isSome = true → (g m).isSome = true := fun m hm => by
    obtain ⟨o', ho'⟩ := Option.isSome_iff_exists.1 hm
    rcases hg' m o' ho' with ⟨rfl, rfl⟩ | ⟨_, h1⟩
    · exact hn
    · rw [h1]; rfl
  have hT := h.tables (w' := w') (g' := g') (ρ' := ρ) (fun c hc hl => hk c hc fun he => hl n s hn (by rw [hp, he])) (fun m c s1 hm hq => .inr ⟨m, s1, hI m hm, hq⟩)
  refine ⟨⟨h.fresh, ?_, fun m q c s1 s2 h1 h2 => h.inj m q c s1 s2 (hI m h1) (hI q h2), hT.1, hT.2⟩, fun _ _ => rfl, Nat.le_refl _, os, tape, output, size, ?_, fun m c s1 hm hq => .inr ⟨m, s1, hI m hm, hq⟩, fun m _ h1 => hI m h1⟩
  · intro m o' ho'
    rcases hg' m o' ho' with ⟨rfl, rfl⟩ | ⟨hne, h1⟩
    · exact ⟨b, s, hp, hO⟩
    · obtain ⟨c, s', hq, hO1⟩ := h.obj m o' h1
      refine ⟨c, s', hq, ?_⟩
      have hlt' : c < w.heap.size := by
        rcases Nat.lt_or_ge c w.heap.size with hlt | hge
        · exact hlt
        · rw [Array.getElem?_eq_none hge] at hO1
          cases o' with
          | cells cs k e => obtain ⟨_, h1, _⟩ := hO1; cases h1
          | map es => obtain ⟨_, _, h1, _⟩ := hO1; cases h1
      rw [hk c hlt' fun he => hne (h.inj m n c s' s (by rw [h1]; rfl) hn hq (by rw [hp, he]))]
      exact hO1
  · intro c hc hl
    exact hk c hc fun he => hl n s hn (by rw [hp, he])
end
end Go.Proofs.Ytigakendeghoaaa.Ex
