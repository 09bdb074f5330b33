/-
  Texts of this claim, joined. No condition.
-/
import Derived.Test.YtombcmhhocbedaaGreatDoorCw5
import Derived.Test.YtombcmhhocbedaaGreatDoorRows
import Derived.WalkKit
import Derived.WalkSpells
import Derived.WalkLawsBesides
import Derived.Deep.Draws
import Derived.Deep.QuietTactic
import Derived.BigQuiet
import Derived.Lib.Hide
import Derived.ProofKit
import Derived.Sort.AtCall
import Derived.Deep.RegionHeld3
import Derived.Deep.RegionWith
import Derived.Deep.DrawnRows
import Derived.OpenShut
/-
  The runner: closed calls; calls whose numbers are not known, question by question. No condition.
-/
namespace Go.Proofs.YtombcmhhocbedaaGreatDoor.Ex
open Go
section
variable {P : Program} {gs : List (Nat × List Int)} {σ : Nat → Int}
theorem tabs_nil {w : World} : Tabs [] w := fun g l h => by cases h
theorem ov_nil : OvOk P gs σ [] := fun f xs v hf => by cases hf
/-- where a tree of questions leads to none of its ends -/
def BadP (σ : Nat → Int) : DT → Prop
  | .leaf | .is _ => False
  | .bad => True
  | .node c t e => (c.ev σ = true ∧ BadP σ t) ∨ (c.ev σ = false ∧ BadP σ e)
/-- what a tree of questions leads to -/
def Ends (σ : Nat → Int) : DT → Value → Prop
  | .leaf, x => x = .bool true
  | .is v, x => x = valOf σ v
  | .bad, _ => False
  | .node c t e, x => (c.ev σ = true ∧ Ends σ t x) ∨ (c.ev σ = false ∧ Ends σ e x)
theorem tree_ends (hm : P.follows .mixedOrders = true) {ov : Ov} (hov : OvOk P gs σ ov) {n : Nat} {f : FuncId} {args : List AV} (ha : AV.shuts args = true) : ∀ (d : DT) (fs : List (Cnd × Bool)), (∀ f ∈ fs, f.1.ev σ = f.2) → tree P gs ov n f args d fs = true → ¬ BadP σ d →
    ∀ w, Tabs gs w → Calls P f (valsOf σ args).toArray w fun e w' => (∃ x, e = .returned x ∧ Ends σ d x) ∧ RowKit.Below w.heap.size w w'
  | .leaf, fs, hfs, h, _, w, hg => (@runs_calls { facts := fs, globs := gs, σ := σ, ok := hfs } P hm ov hov n f args (.bool true) h ha rfl w hg (@ros_nil { facts := fs, globs := gs, σ := σ, ok := hfs } w rfl)).mono fun _ _ h => ⟨⟨_, h.1, rfl⟩, h.2⟩
  | .is v, fs, hfs, h, _, w, hg => by
    unfold tree at h
    split at h <;> first | (cases h; done) | skip
    rename_i hv
    exact (@runs_calls { facts := fs, globs := gs, σ := σ, ok := hfs } P hm ov hov n f args v h ha hv w hg (@ros_nil { facts := fs, globs := gs, σ := σ, ok := hfs } w rfl)).mono fun _ _ h => ⟨⟨_, h.1, rfl⟩, h.2⟩
  | .bad, _, _, _, hb, _, _ => absurd trivial hb
  | .node c t e, fs, hfs, h, hb, w, hg => by
    unfold tree at h
    split at h <;> first | (cases h; done) | skip
    rename_i ht
    cases hc : c.ev σ with
    | true =>
      refine (tree_ends hm hov ha t ((c, true) :: fs) (fun f hf => by rcases List.mem_cons.1 hf with rfl | hf; exact hc; exact hfs f hf) ht (fun hx => hb (.inl ⟨hc, hx⟩)) w hg).mono ?_
      rintro _ _ ⟨⟨x, rfl, hx⟩, h2⟩
      exact ⟨⟨x, rfl, .inl ⟨hc, hx⟩⟩, h2⟩
    | false =>
      refine (tree_ends hm hov ha e ((c, false) :: fs) (fun f hf => by rcases List.mem_cons.1 hf with rfl | hf; exact hc; exact hfs f hf) h (fun hx => hb (.inr ⟨hc, hx⟩)) w hg).mono ?_
      rintro _ _ ⟨⟨x, rfl, hx⟩, h2⟩
      exact ⟨⟨x, rfl, .inr ⟨hc, hx⟩⟩, h2⟩
/-- no end but true -/
def DT.plain : DT → Bool
  | .leaf | .bad => true
  | .is _ => false
  | .node _ t e => t.plain && e.plain
theorem ends_plain : ∀ {d : DT} {x : Value}, d.plain = true → Ends σ d x → x = .bool true
  | .leaf, _, _, h => h
  | .bad, _, _, h => h.elim
  | .is _, _, hp, _ => by cases hp
  | .node c t e, x, hp, h => by
    unfold DT.plain at hp
    rw [Bool.and_eq_true] at hp
    rcases h with ⟨_, h⟩ | ⟨_, h⟩
    · exact ends_plain hp.1 h
    · exact ends_plain hp.2 h
theorem tree_calls (hm : P.follows .mixedOrders = true) {ov : Ov} (hov : OvOk P gs σ ov) {n : Nat} {f : FuncId} {args : List AV} (ha : AV.shuts args = true) (d : DT) (hp : d.plain = true) (h : tree P gs ov n f args d [] = true) (hb : ¬ BadP σ d) (w : World) (hg : Tabs gs w) :
    Calls P f (valsOf σ args).toArray w fun e w' => e = .returned (.bool true) ∧ RowKit.Below w.heap.size w w' := by
  refine (tree_ends hm hov ha d [] (by simp) h hb w hg).mono ?_
  rintro _ _ ⟨⟨x, rfl, hx⟩, h2⟩
  rw [ends_plain hp hx]
  exact ⟨rfl, h2⟩
/-- A CALL WITHOUT ARGUMENTS -/
theorem leaf_calls (hm : P.follows .mixedOrders = true) {ov : Ov} (hov : OvOk P gs σ ov) {n : Nat} {f : FuncId} (h : tree P gs ov n f [] .leaf [] = true) (w : World) (hg : Tabs gs w) : Calls P f #[] w fun e w' => e = .returned (.bool true) ∧ RowKit.Below w.heap.size w w' :=
  tree_calls hm hov rfl .leaf rfl h (fun h => h) w hg
theorem yes_calls (hm : P.follows .mixedOrders = true) {n : Nat} {f : FuncId} (h : yes P n f = true) (w : World) : Calls P f #[] w fun e w' => e = .returned (.bool true) ∧ RowKit.Below w.heap.size w w' :=
  leaf_calls (gs := []) (σ := fun _ => 0) hm ov_nil h w tabs_nil
/-- one more call that is known -/
theorem ov_cons {ov : Ov} {f : FuncId} {xs : List AV} {v : AV} (hov : OvOk P gs σ ov) (ha : AV.shuts xs = true) (hv : v.shut = true) (hf : FnOk P f) (hc : ∀ w, Tabs gs w → Calls P f (valsOf σ xs).toArray w fun e w' => e = .returned (valOf σ v) ∧ RowKit.Below w.heap.size w w') : OvOk P gs σ ((f, xs, v) :: ov) := by
  intro g xs' v' hm
  rcases List.mem_cons.1 hm with he | he
  · simp only [Prod.mk.injEq] at he
    obtain ⟨rfl, rfl, rfl⟩ := he
    exact ⟨ha, hv, hf, hc⟩
  · exact hov g xs' v' he
/-- .. by a run -/
theorem ov_run (hm : P.follows .mixedOrders = true) {ov : Ov} (hov : OvOk P gs σ ov) {n : Nat} {f : FuncId} (hf : FnOk P f) (h : tree P gs ov n f [] .leaf [] = true) : OvOk P gs σ ((f, [], .bool true) :: ov) :=
  ov_cons hov rfl rfl hf fun w hg => leaf_calls hm hov h w hg
end
end Go.Proofs.YtombcmhhocbedaaGreatDoor.Ex

/-
  Memory as a list of owned blocks over the memory that was there at the start. Used by all walks of this seat. No condition.
-/
namespace Go.Proofs.YtombcmhhocbedaaGreatDoor
open Go.RowKit

/-- 'w' is 'W' with new blocks, of which the listed ones hold what is listed. -/
structure Own (W : World) (m : List (Nat × Obj)) (w : World) : Prop where
  below : Below W.heap.size W w
  at_ : ∀ p ∈ m, W.heap.size ≤ p.1 ∧ w.heap[p.1]? = some p.2
  nd : (m.map (·.1)).Nodup

theorem heap_lt {w : World} {g : Nat} {o : Obj} (h : w.heap[g]? = some o) : g < w.heap.size := by
  rcases Nat.lt_or_ge g w.heap.size with hlt | hge
  · exact hlt
  · rw [Array.getElem?_eq_none hge] at h; cases h

theorem perm_swap {α : Type} (A B C : List α) : (A ++ (B ++ C)).Perm (B ++ (A ++ C)) := by
  rw [← List.append_assoc, ← List.append_assoc]
  exact List.Perm.append_right _ List.perm_append_comm

namespace Own
variable {W w w' : World} {m m' : List (Nat × Obj)} {b i : Nat} {cs : Array Value} {t : TypeId} {o : Obj}

theorem init (W : World) : Own W [] W := ⟨Below.refl _ _, by simp, by simp⟩
theorem self (w : World) : Own w [] w := init w
theorem get (h : Own W m w) (hm : (b, o) ∈ m) : w.heap[b]? = some o := (h.at_ _ hm).2
theorem lt (h : Own W m w) (hm : (b, o) ∈ m) : b < w.heap.size := heap_lt (h.get hm)
theorem ge (h : Own W m w) (hm : (b, o) ∈ m) : W.heap.size ≤ b := (h.at_ _ hm).1
theorem cell (h : Own W m w) (hm : (b, .cells cs t) ∈ m) (i : Nat) : w.cell? ⟨b, i, none⟩ = cs[i]? := by
  simp [World.cell?, h.get hm]
theorem frozen (h : Own W m w) (hm : (b, .cells cs t) ∈ m) (i : Nat) : w.frozen? ⟨b, i, none⟩ = false := by
  simp [World.frozen?, h.get hm]
theorem old (h : Own W m w) {a : Addr} (ha : a.block < W.heap.size) : w.cell? a = W.cell? a := h.below.cell ha
theorem size_le (h : Own W m w) : W.heap.size ≤ w.heap.size := h.below.size
theorem drew (h : Own W m w) : Own W m w.drew := ⟨h.below.drew, h.at_, h.nd⟩
theorem drewN (h : Own W m w) (n : Nat) : Own W m (w.drewN n) := ⟨⟨h.below.os, h.below.tape, h.below.output, h.below.size, h.below.block⟩, h.at_, h.nd⟩
theorem perm (h : Own W m w) (hp : m.Perm m') : Own W m' w :=
  ⟨h.below, fun p hm => h.at_ p (hp.mem_iff.2 hm), (hp.map (·.1)).nodup_iff.1 h.nd⟩
theorem sub (h : Own W m w) (hs : m'.Sublist m) : Own W m' w :=
  ⟨h.below, fun p hm => h.at_ p (hs.subset hm), h.nd.sublist (hs.map _)⟩
theorem skip {x : Nat × Obj} (h : Own W (x :: m) w) : Own W m w := h.sub (List.sublist_cons_self _ _)
theorem dropL (h : Own W (m' ++ m) w) : Own W m w := h.sub (List.sublist_append_right _ _)
theorem dropR (h : Own W (m ++ m') w) : Own W m w := h.sub (List.sublist_append_left _ _)
theorem swap {m1 m2 m3 : List (Nat × Obj)} (h : Own W (m1 ++ (m2 ++ m3)) w) : Own W (m2 ++ (m1 ++ m3)) w :=
  h.perm (by rw [← List.append_assoc, ← List.append_assoc]; exact List.Perm.append_right _ List.perm_append_comm)
theorem comm {m1 m2 : List (Nat × Obj)} (h : Own W (m1 ++ m2) w) : Own W (m2 ++ m1) w := h.perm List.perm_append_comm
/-- nothing that was there has turned -/
theorem then_below (h : Own W m w) (hb : Below w.heap.size w w') : Own W m w' :=
  ⟨h.below.trans (hb.mono h.size_le), fun p hm => ⟨(h.at_ p hm).1, (hb.block p.1 (heap_lt (h.at_ p hm).2)).trans (h.at_ p hm).2⟩, h.nd⟩
theorem alloc (h : Own W m w) (o : Obj) : Own W m (w.alloc o) := h.then_below ((Below.refl _ _).alloc (Nat.le_refl _) _)
theorem new (h : Own W m w) (o : Obj) : Own W ((w.heap.size, o) :: m) (w.alloc o) :=
  ⟨(h.alloc o).below, fun p hm => by
    rcases List.mem_cons.1 hm with rfl | hm
    · exact ⟨h.size_le, heap_alloc_new w o⟩
    · exact (h.alloc o).at_ p hm, by
    simp only [List.map_cons, List.nodup_cons]
    refine ⟨fun hin => ?_, h.nd⟩
    obtain ⟨p, hp, he⟩ := List.mem_map.1 hin
    have := heap_lt (h.at_ p hp).2
    omega⟩
theorem set (h : Own W ((b, .cells cs t) :: m) w) (i : Nat) (v : Value) : Own W ((b, .cells (cs.setIfInBounds i v) t) :: m) (w.setCell ⟨b, i, none⟩ v) := by
  have hg := h.get (List.mem_cons_self)
  have hge := h.ge (List.mem_cons_self)
  refine ⟨h.below.setCell hge v, fun p hm => ?_, h.nd⟩
  rcases List.mem_cons.1 hm with rfl | hm
  · exact ⟨hge, by simp [World.setCell, Array.getElem?_modify, hg]⟩
  · have hne : p.1 ≠ b := fun he => by
      have := h.nd
      simp only [List.map_cons, List.nodup_cons] at this
      exact this.1 (he ▸ List.mem_map_of_mem (f := (·.1)) hm)
    exact ⟨(h.at_ p (List.mem_cons_of_mem _ hm)).1, (Below.heap_setCell w _ v p.1 hne).trans (h.at_ p (List.mem_cons_of_mem _ hm)).2⟩
theorem setIn {m1 m2 : List (Nat × Obj)} (h : Own W (m1 ++ (b, .cells cs t) :: m2) w) (i : Nat) (v : Value) :
    Own W (m1 ++ (b, .cells (cs.setIfInBounds i v) t) :: m2) (w.setCell ⟨b, i, none⟩ v) :=
  ((h.perm List.perm_middle).set i v).perm List.perm_middle.symm
theorem toBelow (h : Own w m w') : Below w.heap.size w w' := h.below
theorem of_self (h : Own W m w) (h' : Own w [] w') : Own W m w' := h.then_below h'.below
/-- what a call makes, beside what was there -/
theorem join (h : Own W m w) (h' : Own w m' w') : Own W (m' ++ m) w' := by
  have hk := h.then_below h'.below
  refine ⟨hk.below, fun p hp => ?_, ?_⟩
  · rcases List.mem_append.1 hp with hp | hp
    · exact ⟨Nat.le_trans h.size_le (h'.at_ p hp).1, (h'.at_ p hp).2⟩
    · exact hk.at_ p hp
  · rw [List.map_append, List.nodup_append]
    refine ⟨h'.nd, h.nd, fun a ha b hb => ?_⟩
    obtain ⟨p, hp, rfl⟩ := List.mem_map.1 ha
    obtain ⟨q, hq, rfl⟩ := List.mem_map.1 hb
    have h1 := (h'.at_ p hp).1
    have h2 := heap_lt (h.at_ q hq).2
    omega
theorem ne {b' : Nat} {o' : Obj} (h : Own W ((b, o) :: m) w) (hm : (b', o') ∈ m) : b' ≠ b := fun he => by
  have := h.nd
  simp only [List.map_cons, List.nodup_cons] at this
  exact this.1 (he ▸ List.mem_map_of_mem (f := (·.1)) hm)
theorem front3 {m1 m2 m3 m4 : List (Nat × Obj)} (h : Own W (m1 ++ (m2 ++ (m3 ++ m4))) w) : Own W (m3 ++ (m1 ++ (m2 ++ m4))) w :=
  h.perm ((List.Perm.append_left _ (perm_swap _ _ _)).trans (perm_swap _ _ _))
theorem dropIn {m1 m2 m3 : List (Nat × Obj)} (h : Own W (m1 ++ (m2 ++ m3)) w) : Own W (m1 ++ m3) w :=
  h.sub ((List.Sublist.refl _).append (List.sublist_append_right _ _))
theorem drop1 {x : Nat × Obj} {m1 : List (Nat × Obj)} (h : Own W (m1 ++ x :: m) w) : Own W (m1 ++ m) w :=
  h.sub ((List.Sublist.refl _).append (List.sublist_cons_self _ _))
theorem drop2 {x : Nat × Obj} {m1 m2 : List (Nat × Obj)} (h : Own W (m1 ++ (m2 ++ x :: m)) w) : Own W (m1 ++ (m2 ++ m)) w :=
  h.sub ((List.Sublist.refl _).append ((List.Sublist.refl _).append (List.sublist_cons_self _ _)))
/-- a new block behind one, or two, groups of blocks -/
theorem new1 {m1 : List (Nat × Obj)} (h : Own W (m1 ++ m) w) (o : Obj) : Own W (m1 ++ (w.heap.size, o) :: m) (w.alloc o) := (h.new o).perm List.perm_middle.symm
theorem new2 {m1 m2 : List (Nat × Obj)} (h : Own W (m1 ++ (m2 ++ m)) w) (o : Obj) : Own W (m1 ++ (m2 ++ (w.heap.size, o) :: m)) (w.alloc o) :=
  (h.new o).perm (by rw [← List.append_assoc, ← List.append_assoc]; exact List.perm_middle.symm)
end Own

/-! ### make -/
theorem run_make_rowN {P : Program} (t e : TypeId) (i : TypeInfo) (z : Value) (ht : P.underlying t = some (.slice e)) (hi : P.info? e = some i) (hz : i.zero = some z)
    (kl kc : IntKind) (n c : Nat) (hnc : n ≤ c) (hbytes : i.bytes * c ≤ 281474976710656) (h63 : c ≤ 9223372036854775807) (w : World) :
    (Instr.makeSlice t (.int kl (n : Int)) (.int kc (c : Int))).run P w = .ok (.slice (some ⟨w.heap.size, 0, none⟩) n c) (w.alloc (.cells (madeCells z.cells (c * i.size)) e)) := by
  have hb : (i.bytes : Int) * (c : Int) ≤ 281474976710656 := by
    have h : ((i.bytes * c : Nat) : Int) ≤ 281474976710656 := by omega
    rwa [Int.natCast_mul] at h
  have hr := run_make (P := P) w t e i z ht hi hz kl kc n c (by omega) (by omega) hb (by omega)
  simp only [Int.toNat_natCast] at hr
  exact hr
theorem madeCells_const (z : Array Value) (x : Value) (n : Nat) (h0 : 0 < z.size) (h : ∀ i, i < z.size → z[i]! = x) : madeCells z n = Array.replicate n x := by
  apply Array.ext
  · simp [madeCells]
  · intro i h1 h2
    simp [madeCells, h (i % z.size) (Nat.mod_lt _ h0)]
/-- what is told of a type -/
theorem info_get {P : Program} {t n b : Nat} {z : Value} (h : (P.info? t).map (fun i => (i.zero, i.size, i.bytes)) = some (some z, n, b)) : ∃ i, P.info? t = some i ∧ i.zero = some z ∧ i.size = n ∧ i.bytes = b := by
  cases hi : P.info? t with
  | none => rw [hi] at h; cases h
  | some i => rw [hi] at h; simp at h; exact ⟨i, rfl, h⟩
end Go.Proofs.YtombcmhhocbedaaGreatDoor

/-
  From what a law's walk gives to the law's row: the call returns true, and of what was there before nothing has turned. No condition.
-/
namespace Go.Proofs.YtombcmhhocbedaaGreatDoor
open Go.ChangeShapes Go.WideShapes Go.ChangeAt Go.RowKit

theorem Tryz.own : ownKnob Tryz.prog.godebug = none := by kernel_rfl
theorem Tryz.laidOut : laidOutB Tryz.prog = true := by kernel_rfl

section
variable {H : Type} {enc : TypeId × Value → H} {P : Program}
/-- arguments read behind the call as they did -/
theorem trodAll_below (hl : laidOutB P = true) {W W' : World} (hb : Below W.heap.size W W') {sp : Nat → Bool} :
    ∀ (ts : List TypeId) (vs : List Value) (ds : List (DataW H)) (ps : List MemPlace), (∀ t ∈ ts, P.readableRec t = true ∧ t < P.types.size) →
    DataW.TrodAll enc P W 0 (fun _ => true) true ts vs ds ps → (∀ x ∈ ps, x.block < W.heap.size) → (∀ x ∈ ps, sp x.block = true) →
    DataW.TrodAll enc P W' 0 sp true ts vs ds ps
  | [], vs, ds, ps, _, h, _, _ => by
    obtain ⟨rfl, rfl, rfl⟩ := trodAll_nil h
    exact trodAll_mk0
  | t :: ts, vs, ds, ps, hr, h, hlt, hs => by
    obtain ⟨v, vs', d, ds', p, q, rfl, rfl, rfl, h1, h2⟩ := trodAll_cons h
    obtain ⟨hr1, hr2⟩ := hr t List.mem_cons_self
    exact trodAll_cons_mk (WideElems.Trod_stays hl hr1 hr2 h1 (fun x hx => hb.same (hlt x (List.mem_append_left _ hx))) (fun x hx => hs x (List.mem_append_left _ hx)))
      (trodAll_below hl hb ts vs' ds' q (fun t' ht' => hr t' (List.mem_cons_of_mem _ ht')) h2 (fun x hx => hlt x (List.mem_append_right _ hx)) (fun x hx => hs x (List.mem_append_right _ hx)))

theorem law_post {f : Func} {s : ChangeSpec} {T : TypeId} {apart fresh handsOn again : Bool} {W W' : World} {args : Array Value} {ds gs : List (DataW H)} {before : List MemPlace} (hl : laidOutB P = true)
    (hT : P.underlying T = some .bool) (hres : f.resultTypes = #[T]) (hvars : s.vars = []) (hr : ∀ t ∈ f.params.toList, P.readableRec t = true ∧ t < P.types.size)
    (hW : DataW.Whole enc P f.params.toList s.vars apart W args.toList ds gs before)
    (hfn : s.fn H ds = { results := [.lit (.bool true)], args := ds }) (hb : Below W.heap.size W W') :
    s.post enc P f apart fresh handsOn again W args (.bool true) W' := by
  have hW' := hW
  obtain ⟨p, q, hA, hV, rfl, hz, hn⟩ := hW
  rw [hvars] at hV
  obtain ⟨rfl, rfl⟩ := trodVars_none hV
  simp only [List.append_nil] at hW'
  have hlt : ∀ x ∈ p, x.block < W.heap.size := fun x hx => hW'.lt x hx
  have hA' : ∀ sp : Nat → Bool, (∀ x ∈ p, sp x.block = true) → DataW.TrodAll enc P W' 0 sp true f.params.toList args.toList ds p :=
    fun sp hs => trodAll_below hl hb _ _ _ _ hr hA hlt hs
  have hR : ∀ (b : Nat) (sp : Nat → Bool) (hd : Bool), DataW.TrodAll enc P W' b sp hd f.resultTypes.toList ((Value.bool true).resultList f.resultTypes.size) [.lit (.bool true)] [] := fun b sp hd => by
    rw [hres]; exact trodAll_mk1 (shut_bool hT _)
  have hold : ∀ x ∈ p, (fun b => decide (b < W.heap.size)) x.block = true := fun x hx => by simpa using hlt x hx
  have hds : s.fn H (ds ++ []) = { results := [.lit (.bool true)], args := ds } := by rw [List.append_nil]; exact hfn
  refine ⟨ds, [], p, [], p, [], hW', ?_, ?_, ?_, World.keptBut_mono (fun x hx => ⟨hx, .inr (.inl hx)⟩) (hb.frame (· ∈ p)), fun _ => ?_⟩
  · rw [hds]; exact hR _ _ _
  · rw [hds]; exact hA' _ hold
  · rw [hvars, hds]; rfl
  · refine ⟨ok_one hres rfl (okWide_bool_mk hT _), _, [], [] ++ p, ⟨[] ++ p, [], trodAll_append (hA' _ (fun _ _ => rfl)) (hR 0 (fun _ => true) true), by rw [hvars]; rfl, by simp, ?_, ?_⟩, ?_⟩
    · intro b off hp
      have hin : MemPlace.cell b off ∈ p := by simpa using hp
      rw [hb.frozen (hlt _ hin)]
      exact hz b off (by simpa using hin)
    · intro ha
      simpa using hn ha
    · intro x hx _
      simpa using hx
end
end Go.Proofs.YtombcmhhocbedaaGreatDoor

/-
  From a run in the kernel to the form that a law's last text wants. No condition.
-/
namespace Go.Proofs.YtombcmhhocbedaaGreatDoor.Ex
open Go
theorem mixed : Tryz.prog.follows .mixedOrders = true := by kernel_rfl
theorem yes_own {n : Nat} {f : FuncId} (h : yes Tryz.prog n f = true) (w : World) : Calls Tryz.prog f #[] w fun e w' => e = .returned (.bool true) ∧ Own w [] w' :=
  (yes_calls mixed h w).mono fun _ _ h => ⟨h.1, ⟨h.2, by simp, by simp⟩⟩
/-- .. amid other blocks -/
theorem yes_in {n : Nat} {f : FuncId} (h : yes Tryz.prog n f = true) {W w : World} {m : List (Nat × Obj)} (hO : Own W m w) : Calls Tryz.prog f #[] w fun e w' => e = .returned (.bool true) ∧ Own W m w' :=
  (yes_calls mixed h w).mono fun _ _ h => ⟨h.1, hO.then_below h.2⟩
/-- .. where calls are known, and tables -/
theorem yes_over {gs : List (Nat × List Int)} {σ : Nat → Int} {ov : Ov} (hov : OvOk Tryz.prog gs σ ov) {n : Nat} {f : FuncId} (h : tree Tryz.prog gs ov n f [] .leaf [] = true) (w : World) (hg : Tabs gs w) : Calls Tryz.prog f #[] w fun e w' => e = .returned (.bool true) ∧ Own w [] w' :=
  (leaf_calls mixed hov h w hg).mono fun _ _ h => ⟨h.1, ⟨h.2, by simp, by simp⟩⟩
/-- a law with arguments -/
theorem law_over {gs : List (Nat × List Int)} {σ : Nat → Int} {ov : Ov} (hov : OvOk Tryz.prog gs σ ov) {n : Nat} {f : FuncId} {args : List AV} (ha : AV.shuts args = true) (d : DT) (hp : d.plain = true) (h : tree Tryz.prog gs ov n f args d [] = true) (hb : ¬ BadP σ d) (w : World) (hg : Tabs gs w) :
    Calls Tryz.prog f (valsOf σ args).toArray w fun e w' => e = .returned (.bool true) ∧ Own w [] w' :=
  (tree_calls mixed hov ha d hp h hb w hg).mono fun _ _ h => ⟨h.1, ⟨h.2, by simp, by simp⟩⟩
end Go.Proofs.YtombcmhhocbedaaGreatDoor.Ex
