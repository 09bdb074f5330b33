/-
  Texts of this claim, joined. No condition.
-/
import Derived.Test.YtigakendeghoaaaFa8
import Derived.Test.YtigakendeghoaaaFa6
import Derived.Test.YtigakendeghoaaaFa5
import Derived.Test.YtigakendeghoaaaFa7
import Derived.Test.YtigakendeghoaaaFa2
import Derived.Laws.CopyRow
import Derived.RegionTactic
/-
  Contracts: mem.New, Words; slices.Clone of words. No condition.
-/
namespace Go.Proofs.Ytigakendeghoaaa.Mem
open Go.RowKit
attribute [local go_sem ↓] Go.wp_at_zero Go.wp_at_succ
section
variable {W w : World} {m : List (Nat × Obj)} {b0 b1 N k b : Nat} {g : List Nat} {v : Value}
set_option maxHeartbeats 400000 in
theorem clone_spec (h : Own W m w) (hv : WordsSrc w v g) (hlen : g.length * 8 ≤ 140737488351232) :
    Calls Try.prog 93 #[v] w fun e w' => ∃ v' bs', e = .returned v' ∧ WordsOwn true v' g bs' ∧ Own W (bs' ++ m) w' := by
  rcases hv.2 with ⟨rfl, hn⟩ | ⟨a, c, rfl, hc⟩
  · have hl : g = [] := List.eq_nil_of_length_eq_zero hn
    subst hl
    have he := Lib.run_eql_slice_nil (P := Try.prog) w 35 22 none 0 0 0 0 Try.underlying35
    go_enter Try.func93, Try.ntmps93
    go_wp2
    go_ret
    exact ⟨_, [], rfl, SlO.nil _ _ _, h⟩
  · have he := Lib.run_eql_slice_nil (P := Try.prog) w 35 22 (some a) g.length c 0 0 Try.underlying35
    have hn := h.new (.cells #[] 22)
    have hs0 : WordsOwn true (.slice (some ⟨w.heap.size, 0, none⟩) 0 0) [] [(w.heap.size, .cells #[] 22)] := SlO.made true 22 1 w.heap.size 0 #[] 0 (Nat.le_refl _) (by unfold maxLen; omega) rfl
    have hx := hv.below (w' := w.alloc (.cells #[] 22)) ((Below.refl _ _).alloc (Nat.le_refl _) _)
    clear hv hc
    go_enter Try.func93, Try.ntmps93
    go_wp2_with (at_builtin; refine wpList_app_words rfl _ _ rfl rfl rfl hs0 hn hx (by simpa using hlen) ?_; intro v' w' bs' h1 h2 h3; have H1 := Lib.hid h1; clear h1 h3)
    go_ret
    exact ⟨_, bs', rfl, H1.out, h2⟩
theorem src_row (h : Own W (wB b1 g :: m) w) : WordsSrc w (.slice (some ⟨b1, 0, none⟩) g.length g.length) g :=
  ⟨by rw [words_len, Nat.mul_one], .inr ⟨_, _, rfl, fun j u hj => by
    rw [add_lit0]
    have hjl : j < g.length := by
      have := (List.getElem?_eq_some_iff.1 hj).1
      rw [words_len] at this
      exact this
    have hg1 : g[j]? = some (g[j]'hjl) := List.getElem?_eq_getElem hjl
    rw [words_get hg1] at hj
    rw [(cell_w h hg1).1, ← hj]⟩⟩
theorem words_spec (h : Own W (mB b0 b1 N k :: wB b1 g :: m) w) (hN : g.length = N) (hN2 : N ≤ 4096) :
    Calls Try.prog 75 #[.pointer (some ⟨b0, 0, none⟩)] w fun e w' => ∃ v' bs', e = .returned v' ∧ WordsOwn true v' g bs' ∧ Own W (bs' ++ (mB b0 b1 N k :: wB b1 g :: m)) w' := by
  obtain ⟨y0, y1, f1⟩ := box_m h
  have hs := src_row h.skip
  have hc := clone_spec h hs (by omega)
  rw [hN] at hc
  have HC := Lib.hid hc
  clear hc hs h hN
  go_enter Try.func75, Try.ntmps75
  go_wp2_with fail
  refine HC.out.mono ?_
  rintro e w3 ⟨v', bs', rfl, h3, h4⟩
  obtain ⟨A, c, rfl, -, -⟩ := h3.slice
  have H3 := Lib.hid h3
  have H4 := Lib.hid h4
  clear h3 h4
  go_wp2_with fail
  go_ret
  exact ⟨_, bs', rfl, H3.out, H4.out⟩
theorem row_zero (n : Nat) : Array.replicate n (Value.int .u64 0) = wRow (List.replicate n 0) := by
  unfold wRow words
  simp
set_option maxRecDepth 100000 in
theorem new_spec (h : Own W m w) (h1 : 1 ≤ N) (h2 : N ≤ 4096) :
    Calls Try.prog 71 #[.int .i64 N] w fun e w' => ∃ b0 b1, e = .returned (.tuple #[.pointer (some ⟨b0, 0, none⟩), .int .i64 0]) ∧ Own W (mB b0 b1 N 0 :: wB b1 (List.replicate N 0) :: m) w' := by
  obtain ⟨i, hi, hzz, hs, hby⟩ := info_get word_info
  have hmk := fun W => run_make_rowN (P := Try.prog) 35 22 i _ Try.underlying35 hi hzz .i64 .i64 N N (Nat.le_refl _) (by rw [hby]; omega) (by omega) W
  rw [hs, Nat.mul_one, madeCells_const _ (.int .u64 0) _ (by simp [Value.cells]) (by intro j hj; obtain rfl : j = 0 := (by simp [Value.cells] at hj; omega); rfl), row_zero] at hmk
  clear hi hzz hs hby
  have h3 : Own W (wB w.heap.size (List.replicate N 0) :: m) _ := h.new (.cells (wRow (List.replicate N 0)) 22)
  have h4 := h3.new (.cells #[.slice (some ⟨w.heap.size, 0, none⟩) N N, .int .i64 0] 70)
  rw [World.size_alloc] at h4
  have hi1 : (1 : Int) ≤ N := by omega
  have hi2 : (N : Int) ≤ 4096 := by omega
  clear h h3
  go_enter Try.func71, Try.ntmps71
  go_wp2_with fail
  go_ret2
  exact ⟨_, _, rfl, h4⟩
end
end Go.Proofs.Ytigakendeghoaaa.Mem

/-
  chart.See, and the words of a memory, as known calls of the runner. No condition.
-/
namespace Go.Proofs.Ytigakendeghoaaa.Ex
open Go Mem See
open Go.RowKit
section
/-- which lists of a core are empty: of its slots, of its shelf, of its slabs -/
structure Sh where
  slots : List (Bool × Bool)
  shelf : Bool
  slabs : List Bool
def cn : Bool → Nat
  | true => 0
  | false => 1
def lsAV : Bool → Nat → Nat → AV
  | true, _, _ => .zsl
  | false, nm, q => .dsl nm (.len (.lvar q)) 1
def lsTB : Bool → Nat → List TB
  | true, _ => []
  | false, q => [.recs (.lvar q) [.int .i64] 3]
def slotAV : List (Bool × Bool) → Nat → Nat → Nat → List AV
  | [], _, _, _ => []
  | (e1, e2) :: r, b, q, nm => .sym .i64 (.var b) :: lsAV e1 nm q :: .sym .u64 (.var (b + 1)) :: lsAV e2 (nm + cn e1) (q + 1) :: slotAV r (b + 2) (q + 2) (nm + cn e1 + cn e2)
def slotTB : List (Bool × Bool) → Nat → List TB
  | [], _ => []
  | (e1, e2) :: r, q => lsTB e1 q ++ (lsTB e2 (q + 1) ++ slotTB r (q + 2))
def slotCn : List (Bool × Bool) → Nat
  | [] => 0
  | (e1, e2) :: r => cn e1 + cn e2 + slotCn r
def slabAV : List Bool → Nat → Nat → Nat → List AV
  | [], _, _, _ => []
  | e :: r, b, q, nm => .sym .i64 (.var b) :: .sym .i64 (.var (b + 1)) :: .bsym (.eq (.var (b + 2)) (.lit 0)) false :: .bsym (.eq (.var (b + 3)) (.lit 0)) false :: lsAV e nm q :: slabAV r (b + 4) (q + 1) (nm + cn e)
def slabTB : List Bool → Nat → List TB
  | [], _ => []
  | e :: r, q => lsTB e q ++ slabTB r (q + 1)
def Sh.n (s : Sh) : Nat := s.slots.length
def seeNews (s : Sh) (b q : Nat) : List TB :=
  .cells (slotAV s.slots b q (rel + 1)) 78 :: (slotTB s.slots q ++ (lsTB s.shelf (q + 2 * s.n) ++ (.cells (slabAV s.slabs (b + 2 * s.n + 1) (q + 2 * s.n + 1) (rel + 1 + slotCn s.slots + cn s.shelf + 1)) 82 :: slabTB s.slabs (q + 2 * s.n + 1))))
def seeRes (s : Sh) (b q : Nat) : AV :=
  .tup [.agg [.sl rel 0 s.n 4 .any, lsAV s.shelf (rel + 1 + slotCn s.slots) (q + 2 * s.n), .bsym (.eq (.var (b + 2 * s.n)) (.lit 0)) false, .sl (rel + 1 + slotCn s.slots + cn s.shelf) 0 s.slabs.length 5 .any], .int .i64 0]
/-- a core that is seen: its words are the slice of that name -/
def kcSee (nW qW : Nat) (ch : AV) (s : Sh) (b q : Nat) : Kc := { f := 36, args := [.dsl nW (.len (.lvar qW)) 1, ch], pre := [(nW, .recs (.lvar qW) [.int .u64] 22)], news := seeNews s b q, res := seeRes s b q }
/-- words of a memory -/
def kcWords (n0 n1 i qW : Nat) : Kc := { f := 75, args := [.ptr n0 0], pre := [(n0, .opb i n0 n1), (n1, .opb (i + 1) n0 n1)], post := [(n0, .opb i n0 n1), (n1, .opb (i + 1) n0 n1)], news := [.recs (.lvar qW) [.int .u64] 22], res := .dsl rel (.len (.lvar qW)) 1 }
/-! what numbers must be -/
def LsVal (σ : Nat → Int) (q : Nat) (L : List Int) : Prop := (σ (ln q)).toNat = L.length ∧ ∀ (i : Nat) x, L[i]? = some x → σ (lc q i 0) = x
def SlotVal (σ : Nat → Int) : List SlotP → List (Bool × Bool) → Nat → Nat → Prop
  | [], [], _, _ => True
  | s :: r, (e1, e2) :: t, b, q => (e1 = s.list.isEmpty ∧ e2 = s.parts.isEmpty) ∧ (σ b = s.slab ∧ σ (b + 1) = s.turn) ∧ (LsVal σ q s.list ∧ LsVal σ (q + 1) s.parts) ∧ SlotVal σ r t (b + 2) (q + 2)
  | _, _, _, _ => False
def SlabVal (σ : Nat → Int) : List SlabP → List Bool → Nat → Nat → Prop
  | [], [], _, _ => True
  | s :: r, e :: t, b, q => e = s.first.isEmpty ∧ (σ b = s.counts.inuse ∧ σ (b + 1) = s.counts.objects ∧ (s.counts.frozen = !(σ (b + 2) == 0)) ∧ s.counts.live = !(σ (b + 3) == 0)) ∧ LsVal σ q s.first ∧ SlabVal σ r t (b + 4) (q + 1)
  | _, _, _, _ => False
def SeeVal (σ : Nat → Int) (K : CoreP) (s : Sh) (b q : Nat) : Prop :=
  SlotVal σ K.slots s.slots b q ∧ (s.shelf = K.shelf.isEmpty ∧ LsVal σ (q + 2 * s.n) K.shelf ∧ K.locked = !(σ (b + 2 * s.n) == 0)) ∧ SlabVal σ K.slabs s.slabs (b + 2 * s.n + 1) (q + 2 * s.n + 1) ∧ 0 < s.n ∧ 0 < s.slabs.length
/-! blocks under names, from one on -/
def NamedAt (ρ : Ren) (nm : Nat) (ds : List (Nat × Obj)) : Prop := ∀ (i : Nat) d, ds[i]? = some d → ρ (nm + i) = some (d.1, objSize d.2)
theorem NamedAt.left {ρ : Ren} {nm : Nat} {a b : List (Nat × Obj)} (h : NamedAt ρ nm (a ++ b)) : NamedAt ρ nm a := fun i d hi => h i d (by rw [List.getElem?_append_left (List.getElem?_eq_some_iff.1 hi).1]; exact hi)
theorem NamedAt.right {ρ : Ren} {nm : Nat} {a b : List (Nat × Obj)} (h : NamedAt ρ nm (a ++ b)) : NamedAt ρ (nm + a.length) b := fun i d hi => by
  have := h (a.length + i) d (by rw [List.getElem?_append_right (by omega), Nat.add_sub_cancel_left]; exact hi)
  rw [← this]
  congr 1
  omega
def AllTR [Nums] (ρ : Ren) : List TB → List (Nat × Obj) → Prop
  | [], [] => True
  | t :: ts, d :: ds => TR ρ t (objSize d.2) (some d.2) ∧ AllTR ρ ts ds
  | _, _ => False
theorem AllTR.append [Nums] {ρ : Ren} : ∀ {a b : List TB} {x y : List (Nat × Obj)}, AllTR ρ a x → AllTR ρ b y → AllTR ρ (a ++ b) (x ++ y)
  | [], _, [], _, _, h => h
  | [], _, _ :: _, _, h, _ => h.elim
  | _ :: _, _, [], _, h, _ => h.elim
  | t :: a, _, d :: x, _, h, k => ⟨h.1, AllTR.append h.2 k⟩
theorem AllTR.get [Nums] {ρ : Ren} : ∀ {a : List TB} {x : List (Nat × Obj)}, AllTR ρ a x → ∀ (i : Nat) t d, a[i]? = some t → x[i]? = some d → TR ρ t (objSize d.2) (some d.2)
  | [], [], _, _, _, _, h, _ => by simp at h
  | [], _ :: _, h, _, _, _, _, _ => h.elim
  | _ :: _, [], h, _, _, _, _, _ => h.elim
  | t :: a, d :: x, h, 0, _, _, h1, h2 => by
    simp only [List.getElem?_cons_zero, Option.some.injEq] at h1 h2
    subst h1; subst h2
    exact h.1
  | t :: a, d :: x, h, i + 1, _, _, h1, h2 => AllTR.get h.2 i _ _ (by simpa using h1) (by simpa using h2)
variable [Nums]
/-- a list that is owned -/
theorem ls_own {v : Value} {L : List Int} {bs : List (Nat × Obj)} {e : Bool} (h : IntsOwn true v L bs) (he : e = L.isEmpty) : ∃ ds, ds.Sublist bs ∧ ds.length = cn e ∧
    ∀ (ρ : Ren) (nm q : Nat), NamedAt ρ nm ds → LsVal Nums.σ q L → VR ρ (lsAV e nm q) v ∧ AllTR ρ (lsTB e q) ds := by
  subst he
  cases L with
  | nil =>
    refine ⟨[], List.nil_sublist _, rfl, fun ρ nm q _ _ => ⟨?_, trivial⟩⟩
    obtain ⟨A, c, rfl, _, h2⟩ := SlO.slice h
    show VR ρ .zsl _
    unfold VR
    exact ⟨A, c, rfl, h2⟩
  | cons x L =>
    obtain ⟨g, cap, cur, rfl, rfl, h1, h2, ⟨h3, h4⟩, h5⟩ := SlO.form h (by simp)
    have h4 := h4 rfl
    refine ⟨[(g, .cells cur 3)], List.Sublist.refl _, rfl, fun ρ nm q hn hv => ?_⟩
    have hn := hn 0 _ rfl
    rw [Nat.add_zero] at hn
    have hn : ρ nm = some (g, cur.size) := hn
    refine ⟨?_, ?_, trivial⟩
    · show VR ρ (.dsl nm (.len (.lvar q)) 1) _
      unfold VR
      refine ⟨g, cur.size, _, cap, hn, rfl, h1, h2, h4.symm, ?_⟩
      simp only [SE.ev, SE.evN, hv.1]
    · refine ⟨cur, rfl, rfl, ?_, fun r j k hr hk => ?_⟩
      · simp only [SE.evN, hv.1, List.length_cons, List.length_nil, Nat.zero_add, Nat.mul_one]
        simp only [List.length_cons] at h1
        show L.length + 1 ≤ cur.size
        omega
      · simp only [SE.evN, hv.1] at hr
        have hj : j = 0 := by
          have := (List.getElem?_eq_some_iff.1 hk).1
          simp only [List.length_cons, List.length_nil] at this
          omega
        subst hj
        simp only [List.getElem?_cons_zero, Option.some.injEq] at hk
        subst hk
        simp only [List.length_cons, List.length_nil, Nat.zero_add, Nat.mul_one, Nat.add_zero, SE.evA]
        rw [hv.2 r _ (List.getElem?_eq_getElem hr)]
        have h6 : (cur.toList.take ((x :: L).length * 1))[r]? = (ints (x :: L))[r]? := by rw [h5]
        rw [List.getElem?_take, if_pos (by omega)] at h6
        rw [← Array.getElem?_toList, h6]
        unfold ints
        rw [List.getElem?_map, List.getElem?_eq_getElem hr]
        rfl
omit [Nums] in
theorem allOne_cons {v : AV} {l : List AV} (h : v.one = true) (hl : allOne l = true) : allOne (v :: l) = true := by
  unfold allOne
  rw [h]
  exact hl
omit [Nums] in
theorem lsAV_one (e : Bool) (nm q : Nat) : (lsAV e nm q).one = true := by cases e <;> rfl
theorem slots_own : ∀ {Ls : List SlotN} {t : List (Bool × Bool)} {b q : Nat}, SlotsOk Ls → SlotVal Nums.σ (Ls.map (·.x)) t b q → ∃ ds, ds.Sublist (slotBlocks Ls) ∧ ds.length = slotCn t ∧
    ∀ (ρ : Ren) (nm : Nat), NamedAt ρ nm ds → VRs ρ (slotAV t b q nm) (slotCells Ls) ∧ AllTR ρ (slotTB t q) ds ∧ allOne (slotAV t b q nm) = true
  | [], [], b, q, _, _ => ⟨[], List.nil_sublist _, rfl, fun ρ nm _ => ⟨VRs.nil, trivial, rfl⟩⟩
  | [], _ :: _, _, _, _, h => by simp [SlotVal] at h
  | s :: Ls, [], _, _, _, h => by simp [SlotVal] at h
  | s :: Ls, (e1, e2) :: t, b, q, ho, h => by
    simp only [List.map_cons, SlotVal] at h
    obtain ⟨⟨h1, h2⟩, ⟨h3, h4⟩, ⟨h5, h6⟩, h7⟩ := h
    obtain ⟨o1, o2⟩ := ho s List.mem_cons_self
    obtain ⟨d1, s1, n1, k1⟩ := ls_own o1 h1
    obtain ⟨d2, s2, n2, k2⟩ := ls_own o2 h2
    obtain ⟨d3, s3, n3, k3⟩ := slots_own (fun x hx => ho x (List.mem_cons_of_mem _ hx)) h7
    refine ⟨d1 ++ (d2 ++ d3), ?_, by simp only [List.length_append, slotCn, n1, n2, n3]; omega, fun ρ nm hn => ?_⟩
    · have : slotBlocks (s :: Ls) = s.lb ++ (s.pb ++ slotBlocks Ls) := by simp [slotBlocks]
      rw [this]
      exact s1.append (s2.append s3)
    · obtain ⟨v1, t1⟩ := k1 ρ nm q hn.left h5
      have hr := hn.right
      rw [n1] at hr
      obtain ⟨v2, t2⟩ := k2 ρ (nm + cn e1) (q + 1) hr.left h6
      have hr2 := hr.right
      rw [n2] at hr2
      obtain ⟨v3, t3, o3⟩ := k3 ρ (nm + cn e1 + cn e2) hr2
      refine ⟨?_, AllTR.append t1 (AllTR.append t2 t3), ?_⟩
      · have : slotCells (s :: Ls) = .int .i64 s.x.slab :: s.lv :: .int .u64 s.x.turn :: s.pv :: slotCells Ls := by simp [slotCells, SlotN.cells]
        rw [this]
        unfold slotAV
        refine VRs.cons ?_ (VRs.cons v1 (VRs.cons ?_ (VRs.cons v2 v3)))
        · unfold VR; simp only [SE.ev, h3]
        · unfold VR; simp only [SE.ev, h4]
      · exact allOne_cons rfl (allOne_cons (lsAV_one _ _ _) (allOne_cons rfl (allOne_cons (lsAV_one _ _ _) o3)))
theorem slabs_own : ∀ {Ls : List SlabN} {t : List Bool} {b q : Nat}, SlabsOk Ls → SlabVal Nums.σ (Ls.map (·.x)) t b q → ∃ ds, ds.Sublist (slabBlocks Ls) ∧
    ∀ (ρ : Ren) (nm : Nat), NamedAt ρ nm ds → VRs ρ (slabAV t b q nm) (slabCells Ls) ∧ AllTR ρ (slabTB t q) ds ∧ allOne (slabAV t b q nm) = true
  | [], [], b, q, _, _ => ⟨[], List.nil_sublist _, fun ρ nm _ => ⟨VRs.nil, trivial, rfl⟩⟩
  | [], _ :: _, _, _, _, h => by simp [SlabVal] at h
  | s :: Ls, [], _, _, _, h => by simp [SlabVal] at h
  | s :: Ls, e :: t, b, q, ho, h => by
    simp only [List.map_cons, SlabVal] at h
    obtain ⟨h1, ⟨h2, h3, h4, h5⟩, h6, h7⟩ := h
    obtain ⟨d1, s1, n1, k1⟩ := ls_own (ho s List.mem_cons_self) h1
    obtain ⟨d3, s3, k3⟩ := slabs_own (fun x hx => ho x (List.mem_cons_of_mem _ hx)) h7
    refine ⟨d1 ++ d3, ?_, fun ρ nm hn => ?_⟩
    · have : slabBlocks (s :: Ls) = s.b ++ slabBlocks Ls := by simp [slabBlocks]
      rw [this]
      exact s1.append s3
    · obtain ⟨v1, t1⟩ := k1 ρ nm q hn.left h6
      have hr := hn.right
      rw [n1] at hr
      obtain ⟨v3, t3, o3⟩ := k3 ρ (nm + cn e) hr
      refine ⟨?_, AllTR.append t1 t3, ?_⟩
      · have : slabCells (s :: Ls) = .int .i64 s.x.counts.inuse :: .int .i64 s.x.counts.objects :: .bool s.x.counts.frozen :: .bool s.x.counts.live :: s.v :: slabCells Ls := by simp [slabCells, SlabN.cells]
        rw [this]
        unfold slabAV
        refine VRs.cons ?_ (VRs.cons ?_ (VRs.cons ?_ (VRs.cons ?_ (VRs.cons v1 v3))))
        · unfold VR; simp only [SE.ev, h2]
        · unfold VR; simp only [SE.ev, h3]
        · unfold VR; simp only [Cnd.ev, SE.ev, h4]; cases (Nums.σ (b + 2) == 0) <;> rfl
        · unfold VR; simp only [Cnd.ev, SE.ev, h5]; cases (Nums.σ (b + 3) == 0) <;> rfl
      · exact allOne_cons rfl (allOne_cons rfl (allOne_cons rfl (allOne_cons rfl (allOne_cons (lsAV_one _ _ _) o3))))
omit [Nums] in
theorem slotVal_len {σ : Nat → Int} : ∀ {L : List SlotP} {t : List (Bool × Bool)} {b q : Nat}, SlotVal σ L t b q → L.length = t.length
  | [], [], _, _, _ => rfl
  | [], _ :: _, _, _, h => by simp [SlotVal] at h
  | _ :: _, [], _, _, h => by simp [SlotVal] at h
  | s :: L, (e1, e2) :: t, b, q, h => by
    simp only [SlotVal] at h
    simp [slotVal_len h.2.2.2]
omit [Nums] in
theorem slabVal_len {σ : Nat → Int} : ∀ {L : List SlabP} {t : List Bool} {b q : Nat}, SlabVal σ L t b q → L.length = t.length
  | [], [], _, _, _ => rfl
  | [], _ :: _, _, _, h => by simp [SlabVal] at h
  | _ :: _, [], _, _, h => by simp [SlabVal] at h
  | s :: L, e :: t, b, q, h => by
    simp only [SlabVal] at h
    simp [slabVal_len h.2.2.2]
/-- a slice of structs that is owned -/
theorem row_own {v : Value} {n sz : Nat} {e : TypeId} {xs : List Value} {bs : List (Nat × Obj)} (h : SlO true e sz v n xs bs) (hn : 0 < n) : ∃ d, bs = [d] ∧
    ∀ (ρ : Ren) (nm : Nat) (l : List AV), ρ nm = some (d.1, objSize d.2) → VRs ρ l xs → allOne l = true → VR ρ (.sl nm 0 n sz .any) v ∧ TR ρ (.cells l e) (objSize d.2) (some d.2) := by
  have hl := h.1
  obtain ⟨g, cap, cur, rfl, rfl, h1, h2, ⟨h3, h4⟩, h5⟩ := SlO.form h hn
  refine ⟨_, rfl, fun ρ nm l hnm hv ho => ⟨?_, cur, rfl, rfl, ?_, fun i u hu => ?_⟩⟩
  · unfold VR
    exact ⟨g, _, cap, hnm, rfl, h1, h2, trivial⟩
  · rw [hv.len, hl]
    have := Nat.mul_le_mul_right sz h1
    show n * sz ≤ cur.size
    omega
  · obtain ⟨y, hy, hyr⟩ := hv.get hu
    refine ⟨allOne_mem ho u (List.mem_of_getElem? hu), y, ?_, hyr⟩
    rw [← h5, List.getElem?_take] at hy
    split at hy
    · rw [← Array.getElem?_toList]; exact hy
    · cases hy
variable {c : Ch} {g : List Nat} {K : CoreP} {s : Sh} {b q qW nW : Nat}
omit [Nums] in
theorem fn_see : FnOk Try.prog 36 := ⟨Try.f36, _, Try.func36, by kernel_rfl, rfl⟩
omit [Nums] in
theorem fn_words : FnOk Try.prog 75 := ⟨Try.f75, _, Try.func75, by kernel_rfl, rfl⟩
theorem kc_see {ch : AV} {d e : Int} (hnW : nW < rel) (hsh : ch.shut = true) (hch : valOf Nums.σ ch = cV c d e) (hc : COk c d e) (hgw : W64 g) (hgl : g.length = c.words) (hgv : LsVal Nums.σ qW (g.map fun (x : Nat) => (x : Int)))
    (hK : seeP c g = some K) (hv : SeeVal Nums.σ K s b q) : KcOk Try.prog (kcSee nW qW ch s b q) := by
  refine kc_own fn_see (by intro p hp; cases hp) (by intro p hp; simp only [kcSee, List.mem_cons, List.not_mem_nil, or_false] at hp; subst hp; exact hnW) fun _ ρ W w m args' bs hF ha hO => ?_
  obtain ⟨bw, ow, sw, r, rfl, pw, tw, rfl⟩ := hF
  obtain ⟨y, y2, hy, hp, hch2⟩ := VRs.two ha
  unfold VR at hp
  obtain ⟨bw', zw, len, cap, pw', rfl, hlc, hcm, hz, hlen⟩ := hp
  rw [pw] at pw'
  cases pw'
  have hch3 := VR.shut hch2 hsh
  rw [hch] at hch3
  subst hch3
  obtain ⟨cur, hcur, hsz, hle, hat⟩ := tw
  simp only [Option.some.injEq] at hcur
  subst hcur
  simp only [SE.ev, SE.evN, hgv.1, List.length_map] at hlen hle hat
  have hlen : len = g.length := by omega
  subst hlen
  have hargs2 : args' = #[.slice (some ⟨bw, 0, none⟩) g.length cap, cV c d e] := by
    apply Array.ext'
    rw [hy]
  subst hargs2
  have hrd : Rd W ((bw, .cells cur 22) :: m) bw 0 g := fun ws hws j x hj => by
    have hjl := (List.getElem?_eq_some_iff.1 hj).1
    rw [hws.cell List.mem_cons_self]
    have := hat j 0 (.int .u64) hjl rfl
    simp only [List.length_cons, List.length_nil, Nat.zero_add, Nat.mul_one, Nat.add_zero, SE.evA] at this
    rw [Nat.zero_add, this, hgv.2 j (x : Int) (by simp [hj])]
    rfl
  refine (see_spec (W := W) (m := (bw, .cells cur 22) :: m) hO hc ⟨hrd, rfl, hgl, hgw, hlc, hcm⟩).mono ?_
  rintro e' w' hpost
  rw [hK] at hpost
  obtain ⟨v, bs, rfl, hCo, hO2⟩ := hpost
  obtain ⟨Ls, sv, b0, hv0, b1, Ll, lv, b2, rfl, hLs, hso, hsv, hsh1, hLl, hlo, hlv, rfl⟩ := hCo.out
  obtain ⟨v1, ⟨v2, v3, v4⟩, v5, v6, v7⟩ := hv
  rw [← hLs] at v1
  rw [← hLl] at v5
  have n1 : Ls.length = s.n := by have := slotVal_len v1; rwa [List.length_map] at this
  have n2 : Ll.length = s.slabs.length := by have := slabVal_len v5; rwa [List.length_map] at this
  obtain ⟨dd0, rfl, r0⟩ := row_own hsv (by omega)
  obtain ⟨dd2, rfl, r2⟩ := row_own hlv (by omega)
  obtain ⟨ds1, sb1, l1, k1⟩ := slots_own hso v1
  obtain ⟨ds2, sb2, l2, k2⟩ := ls_own hsh1 v2
  obtain ⟨ds3, sb3, k3⟩ := slabs_own hlo v5
  refine ⟨_, [dd0] ++ (ds1 ++ (ds2 ++ ([dd2] ++ ds3))), [(bw, .cells cur 22)], rfl, ?_, rfl, ?_, fun ρ' hk hd => ?_⟩
  · refine hO2.sub ?_
    exact ((List.Sublist.refl _).append (sb1.append (sb2.append ((List.Sublist.refl _).append sb3)))).append (List.Sublist.refl _)
  · -- lengths
    have hsl : ∀ (t : List (Bool × Bool)) (q : Nat), (slotTB t q).length = slotCn t := by
      intro t
      induction t with
      | nil => intro q; rfl
      | cons p t ih =>
        intro q
        obtain ⟨e1, e2⟩ := p
        simp only [slotTB, slotCn, List.length_append, ih]
        cases e1 <;> cases e2 <;> simp [lsTB, cn] <;> omega
    have hls : ∀ (e : Bool) (q : Nat), (lsTB e q).length = cn e := fun e q => by cases e <;> rfl
    have h3 : (slabTB s.slabs (b + 2 * s.n + 1)).length = ds3.length := by
      have hn : ∀ (ρ : Ren) {a : List TB} {x : List (Nat × Obj)}, AllTR ρ a x → a.length = x.length := by
        intro ρ a
        induction a with
        | nil => intro x h; cases x with
          | nil => rfl
          | cons _ _ => exact h.elim
        | cons t a ih => intro x h; cases x with
          | nil => exact h.elim
          | cons d x => simp [ih h.2]
      have hsb : ∀ (t : List Bool) (q q' : Nat), (slabTB t q).length = (slabTB t q').length := by
        intro t
        induction t with
        | nil => intro q q'; rfl
        | cons e t ih =>
          intro q q'
          simp only [slabTB, List.length_append, hls]
          rw [ih (q + 1) (q' + 1)]
      obtain ⟨_, t3, _⟩ := k3 (fun n => (ds3[n]?).map fun d => (d.1, objSize d.2)) 0 (fun i d hi => by simp [hi])
      rw [← hn _ t3]
      exact hsb _ _ _
    have h3' : (slabTB s.slabs (q + 2 * s.n + 1)).length = (slabTB s.slabs (b + 2 * s.n + 1)).length := by
      have hsb : ∀ (t : List Bool) (q q' : Nat), (slabTB t q).length = (slabTB t q').length := by
        intro t
        induction t with
        | nil => intro q q'; rfl
        | cons e t ih =>
          intro q q'
          simp only [slabTB, List.length_append, hls]
          rw [ih (q + 1) (q' + 1)]
      exact hsb _ _ _
    simp only [kcSee, seeNews, List.length_append, List.length_cons, List.length_nil, hsl, hls, l1, l2, h3', h3]
    omega
  · have hN : NamedAt ρ' rel ([dd0] ++ (ds1 ++ (ds2 ++ ([dd2] ++ ds3)))) := hd
    have a0 : ρ' rel = some (dd0.1, objSize dd0.2) := hN 0 _ rfl
    have h1 := hN.right
    have h2 := h1.right
    have h3 := h2.right
    have h4 := h3.right
    simp only [List.length_cons, List.length_nil, Nat.zero_add, l1, l2] at h1 h2 h3 h4
    obtain ⟨x1, x2, x3⟩ := k1 ρ' (rel + 1) h1.left
    obtain ⟨x4, x5⟩ := k2 ρ' (rel + 1 + slotCn s.slots) (q + 2 * s.n) h2.left v3
    have a2 : ρ' (rel + 1 + slotCn s.slots + cn s.shelf) = some (dd2.1, objSize dd2.2) := by
      have := h3.left 0 _ rfl
      rwa [Nat.add_zero] at this
    obtain ⟨x6, x7, x8⟩ := k3 ρ' (rel + 1 + slotCn s.slots + cn s.shelf + 1) h4
    obtain ⟨y1, y2⟩ := r0 ρ' rel _ a0 x1 x3
    obtain ⟨y3, y4⟩ := r2 ρ' (rel + 1 + slotCn s.slots + cn s.shelf) _ a2 x6 x8
    rw [n1] at y1
    rw [n2] at y3
    refine ⟨?_, fun i t d hi hd2 => ?_, fun p hp => by cases hp⟩
    · show VR ρ' (seeRes s b q) _
      unfold seeRes VR
      refine ⟨_, rfl, VRs.cons ?_ (VRs.cons (by unfold VR; rfl) VRs.nil)⟩
      unfold VR
      refine ⟨_, rfl, VRs.cons y1 (VRs.cons x4 (VRs.cons ?_ (VRs.cons y3 VRs.nil)))⟩
      unfold VR
      simp only [Cnd.ev, SE.ev, v4]
      cases (Nums.σ (b + 2 * s.n) == 0) <;> rfl
    · have hall : AllTR ρ' (seeNews s b q) ([dd0] ++ (ds1 ++ (ds2 ++ ([dd2] ++ ds3)))) := by
        unfold seeNews
        have h7 : AllTR ρ' (.cells (slabAV s.slabs (b + 2 * s.n + 1) (q + 2 * s.n + 1) (rel + 1 + slotCn s.slots + cn s.shelf + 1)) 82 :: slabTB s.slabs (q + 2 * s.n + 1)) (dd2 :: ds3) := ⟨y4, x7⟩
        exact ⟨y2, AllTR.append (x := ds1) (y := ds2 ++ (dd2 :: ds3)) x2 (AllTR.append x5 h7)⟩
      exact hall.get i t d hi hd2
theorem kc_words {i n0 n1 N : Nat} (hn0 : n0 < rel) (hn1 : n1 < rel) (hN : g.length = N) (hpos : 0 < N) (hN2 : N ≤ 4096) (hgv : LsVal Nums.σ qW (g.map fun (x : Nat) => (x : Int)))
    (h0 : ∀ b0 b1 o, Nums.Ω i b0 b1 o → ∃ k, (b0, o) = mB b0 b1 N k) (h1 : ∀ b0 b1 o, Nums.Ω (i + 1) b0 b1 o → (b1, o) = wB b1 g) : KcOk Try.prog (kcWords n0 n1 i qW) := by
  refine kc_own fn_words (by intro p hp; simp only [kcWords, List.mem_cons, List.not_mem_nil, or_false] at hp; exact hp.elim (fun h => h ▸ ⟨_, List.mem_cons_self⟩) (fun h => h ▸ ⟨_, List.mem_cons_of_mem _ List.mem_cons_self⟩))
    (by intro p hp; simp only [kcWords, List.mem_cons, List.not_mem_nil, or_false] at hp; rcases hp with rfl | rfl <;> assumption) fun hcs ρ W w m args' bs hF ha hO => ?_
  obtain ⟨b0, o0, s0, r, rfl, p0, t0, b1, o1, s1, r1, rfl, p1, t1, rfl⟩ := hF
  have w0 := opb_inv t0 p0 p1
  have w1 := opb_inv t1 p0 p1
  obtain ⟨y, hy, hp⟩ := ha.one
  obtain ⟨c0, z0, q0, rfl⟩ := hp.ptr_inv
  rw [p0] at q0
  cases q0
  have hargs2 : args' = #[.pointer (some ⟨b0, 0, none⟩)] := by apply Array.ext'; rw [hy]
  subst hargs2
  obtain ⟨k, e0⟩ := h0 _ _ _ w0
  have e1 := h1 _ _ _ w1
  have hO2 : Own W (mB b0 b1 N k :: wB b1 g :: m) w := by rw [← e0, ← e1]; exact hO
  refine (words_spec hO2 hN hN2).mono ?_
  rintro e w' ⟨v', bs', rfl, hv, h'⟩
  obtain ⟨gg, cap, cur, rfl, rfl, c1, c2, ⟨c3, c4⟩, c5⟩ := SlO.form hv (by omega)
  have c4 := c4 rfl
  rw [← e0, ← e1] at h'
  refine ⟨_, [(gg, .cells cur 22)], [(b0, o0), (b1, o1)], rfl, h', rfl, rfl, fun ρ' hk hd => ?_⟩
  have d0 : ρ' rel = some (gg, cur.size) := hd 0 _ rfl
  refine ⟨?_, fun j t d hj hd2 => ?_, fun p hp => ?_⟩
  · show VR ρ' (.dsl rel (.len (.lvar qW)) 1) _
    unfold VR
    refine ⟨gg, cur.size, _, cap, d0, rfl, c1, c2, c4.symm, ?_⟩
    simp only [SE.ev, SE.evN, hgv.1, List.length_map]
  · match j with
    | 0 =>
      simp only [kcWords, List.getElem?_cons_zero, Option.some.injEq] at hj hd2
      subst hj; subst hd2
      refine ⟨cur, rfl, rfl, ?_, fun r j' k' hr hk' => ?_⟩
      · simp only [SE.evN, hgv.1, List.length_map, List.length_cons, List.length_nil, Nat.zero_add, Nat.mul_one]
        show g.length ≤ cur.size
        omega
      · simp only [SE.evN, hgv.1, List.length_map] at hr
        have hj0 : j' = 0 := by
          have := (List.getElem?_eq_some_iff.1 hk').1
          simp only [List.length_cons, List.length_nil] at this
          omega
        subst hj0
        simp only [List.getElem?_cons_zero, Option.some.injEq] at hk'
        subst hk'
        simp only [List.length_cons, List.length_nil, Nat.zero_add, Nat.mul_one, Nat.add_zero, SE.evA]
        rw [hgv.2 r (g[r] : Int) (by simp [List.getElem?_eq_getElem hr])]
        have h6 : (cur.toList.take (g.length * 1))[r]? = (words g)[r]? := by rw [c5]
        rw [List.getElem?_take, if_pos (by omega), words_get (List.getElem?_eq_getElem hr)] at h6
        rw [← Array.getElem?_toList, h6]
        rfl
    | j + 1 => simp [kcWords] at hj
  · simp only [kcWords, List.mem_cons, List.not_mem_nil, or_false] at hp
    have q0 := hk _ _ hn0 p0
    have q1 := hk _ _ hn1 p1
    rcases hp with rfl | rfl
    · exact ⟨b0, o0, s0, by simp, p0, opb_mk q0 q1 w0⟩
    · exact ⟨b1, o1, s1, by simp, p1, opb_mk q0 q1 w1⟩
end
end Go.Proofs.Ytigakendeghoaaa.Ex

/-
  wainscotlaw22.FastApart: the runs of its text. No condition.
-/
namespace Go.Proofs.Ytigakendeghoaaa.FastAp
open Go Ex
noncomputable section
def v (i : Nat) : SE := .var i
def l (n : Int) : SE := .lit n
/-- the chart -/
def chL : List AV := [.int .i64 1, .int .i64 1, .int .i64 10, .int .i64 0, .int .i64 0, .sym .u64 (v 36)]
/-- a task, from a number on -/
def tkL (b : Nat) : List AV := [.sym .i64 (v b), .sym .i64 (v (b + 1)), .sym .i64 (v (b + 2)), .sym .i64 (v (b + 3)), .sym .i64 (v (b + 4)), .sym .i64 (v (b + 5)), .sym .i64 (v (b + 6)), .sym .u64 (v (b + 7)), .sym .u64 (v (b + 8)), .sym .u64 (v (b + 9)), .sym .u64 (v (b + 10)), .sym .u64 (v (b + 11)), .sym .i64 (v (b + 12)), .sym .i64 (v (b + 13)), .sym .i64 (v (b + 14)), .sym .i64 (v (b + 15)), .sym .i64 (v (b + 16))]
def numsAt (b r : Nat) : List (Nat × SE) := [(b, v r), (b + 1, v (r + 1)), (b + 2, v (r + 2)), (b + 3, v (r + 3)), (b + 4, v (r + 4)), (b + 5, v (r + 5)), (b + 6, v (r + 6)), (b + 7, v (r + 7)), (b + 8, v (r + 8)), (b + 9, v (r + 9)), (b + 10, v (r + 10)), (b + 11, v (r + 11)), (b + 12, v (r + 12)), (b + 13, v (r + 13)), (b + 14, v (r + 14)), (b + 15, v (r + 15)), (b + 16, v (r + 16))]
def litsAt (b : Nat) (job pc obj : Int) : List (Nat × SE) := [(b, l job), (b + 1, l 0), (b + 2, l pc), (b + 3, l 0), (b + 4, l 0), (b + 5, l 0), (b + 6, l obj), (b + 7, l 0), (b + 8, l 0), (b + 9, l 0), (b + 10, l 0), (b + 11, l 0), (b + 12, l 0), (b + 13, l 0), (b + 14, l 0), (b + 15, l 0), (b + 16, l 0)]
/-! calls that are known -/
def kcStep (b r e i : Nat) : Kc := { f := 48, args := [.ptr 0 0, .agg chL, .agg (tkL b)], pre := [(0, .opb 0 0 1), (1, .opb 1 0 1)], post := [(0, .opb i 0 1), (1, .opb (i + 1) 0 1)], res := .tup [.agg (tkL r), .sym .i64 (v e)] }
def kcBring (x : SE) (n : Int) (r : Nat) : Kc := { f := 43, args := [.sym .i64 x, .int .i64 n], res := .sym .i64 (v r) }
def kcStocked : Kc := { f := 44, args := [.sym .i64 (v 35), .int .i64 10, .sym .u64 (.ubin .mul (.cv .u64 (v 80)) (l 77)), .int .u64 3], news := [.opb 6 rel (rel + 1), .opb 7 rel (rel + 1)], res := .tup [.ptr rel 0, .agg chL] }
def kcWorks : Kc := { f := 47, args := [], res := .bool true }
/-! the loop of sixty steps -/
def T1 (fr : Bool) (i : Bool) : Tm := { env := (if i then [(11, .sym .i64 (v 0))] else []) ++ [(1, .bool fr), (2, .rsl 0), (7, .sym .i64 (v 35)), (8, .ptr 0 0), (9, .ptr 2 0), (10, .ptr 3 0)], heap := [(0, .opb 0 0 1), (1, .opb 1 0 1), (2, .cells chL 24), (3, .cells (tkL 1 ++ tkL 18) 64)], b := ⟨37, 1, 2, 10⟩ }
def L1 (fr : Bool) : Ln := { key := 9, nx := 4, t := T1 fr true, th := { v := (0, l 0) :: (litsAt 1 1 0 0 ++ (if fr then litsAt 18 2 10 9 else litsAt 18 1 0 0)), o := [(0, 6), (1, 7)] }, x := .exit 0, post := T1 fr false }
def f1 : List (Cnd × Bool) := [(.lt (v 0) (l 0), false), (.lt (v 0) (l 100), true)]
def stepT (b r e i : Nat) : LT := .node (.eq (v e) (l 0)) (.leaf (.cont { v := (0, .bin .add (v 0) (l 1)) :: numsAt b r, o := [(0, i), (1, i + 1)] })) (.leaf (.cont { v := [(0, .bin .add (v 0) (l 1))], o := [(0, i), (1, i + 1)] }))
def stA : LT := stepT 1 40 74 2
def stB : LT := stepT 18 57 75 4
def turnT : LT := .node (.eq (.bin .rem (v 0) (l 2)) (l 1)) stB stA
def D1 : LT := .node (.lt (v 0) (l 60)) (.node (.lt (v 0) (l 28)) (.node (.lt (v 0) (.len (.lvar 0))) (.node (.eq (.at (.lvar 0) (v 0) 0) (l 0)) stA stB) turnT) turnT) (.leaf (.out {}))
theorem run1 (fr : Bool) : treeL Try.prog [] [(0, .bool)] (kgs [kcStep 1 40 74 2, kcStep 18 57 75 4]) [] 3 (ntOf Try.prog 9) 4 (loopOf Try.prog 9 9) (T1 fr true) (.exit 0) (T1 fr false) D1 f1 = true := by
  cases fr <;> kernel_rfl
/-! the list's objects are counted -/
/-- e: the list is empty -/
def T2 (fr e i : Bool) : Tm := { env := (if i then [(19, .sym .i64 (v 37)), (15, if e then .zsl else .dsl 12 (.len (.lvar 1)) 1)] else []) ++ [(1, .bool fr), (7, .sym .i64 (v 35)), (10, .ptr 3 0), (18, .ptr 50 0)], heap := (if e || !i then [] else [(12, .recs (.lvar 1) [.int .i64] 3)]) ++ [(3, .cells (tkL 1 ++ tkL 18) 64), (50, .recs (.lvar 5) [.int .i64] 67)], b := ⟨38, 6, 0, 60⟩ }
def zeros : Nat → SE
  | 0 => .rnil
  | n + 1 => .lsnoc (zeros n) (.rcons (l 0) .rnil)
def L2 (fr e : Bool) : Ln := { key := 22, nx := 4, t := T2 fr e true, th := { v := [(37, l 0)], l := [(5, zeros 10)], n := if e then [(50, 37)] else [(12, 23), (50, 38)] }, x := .exit 2, post := T2 fr e false }
def f2 : List (Cnd × Bool) := [(.lt (v 37) (l 0), false), (.lt (v 37) (l 100), true), (.lt (v 76) (l 0), false), (.lt (v 76) (l 10), true), (.eq (.len (.lvar 5)) (l 10), true)]
def D2 (e : Bool) : LT := if e then .leaf (.out {}) else .node (.lt (v 37) (.len (.lvar 1))) (.leaf (.cont { v := [(37, .bin .add (v 37) (l 1))], l := [(5, .lset (.lvar 5) (v 76) 0 (.bin .add (.at (.lvar 5) (v 76) 0) (l 1)))] })) (.leaf (.out {}))
theorem run2 (fr e : Bool) : treeL Try.prog [] [(0, .bool)] (kgs [kcBring (.at (.lvar 1) (v 37) 0) 10 76]) [] 3 (ntOf Try.prog 9) 4 (loopOf Try.prog 9 22) (T2 fr e true) (.exit 2) (T2 fr e false) (D2 e) f2 = true := by
  cases fr <;> cases e <;> kernel_rfl
/-! all numbers are looked at -/
def T4 (fr i : Bool) : Tm := { env := if i then [(21, .sym .i64 (v 38)), (1, .bool fr), (7, .sym .i64 (v 35)), (18, .ptr 5 0)] else [], heap := if i then [(5, .recs (.lvar 6) [.int .i64] 67)] else [], b := ⟨39, 7, 0, 80⟩ }
/-- what was counted when the tasks' objects are, too -/
def hadE (a b : Bool) : SE :=
  let h1 : SE := if a then .lset (.lvar 5) (v 77) 0 (.bin .add (.at (.lvar 5) (v 77) 0) (l 1)) else .lvar 5
  if b then .lset h1 (v 78) 0 (.bin .add (.at h1 (v 78) 0) (l 1)) else h1
def L4 (fr a b : Bool) : Ln := { key := 33, nx := 0, t := T4 fr true, th := { v := [(38, l 0)], l := [(6, hadE a b)], n := [(5, 50)] }, x := .exit 6, post := T4 fr false }
def f4 : List (Cnd × Bool) := [(.lt (v 38) (l 0), false), (.lt (v 38) (l 100), true), (.eq (.len (.lvar 6)) (l 10), true)]
def wantT (n : Int) : LT := .node (.eq (.at (.lvar 6) (v 38) 0) (l n)) (.leaf (.cont { v := [(38, .bin .add (v 38) (l 1))] })) .bad
def D4 (fr : Bool) : LT := .node (.lt (v 38) (l 10)) (.node (.lt (v 38) (v 35)) (wantT 1) (.node (.eq (v 38) (l 9)) (wantT (if fr then 1 else 0)) (wantT 0))) (.leaf (.out {}))
theorem run4 (fr : Bool) : treeL Try.prog [] [(0, .bool)] (kgs []) [] 3 (ntOf Try.prog 9) 0 (loopOf Try.prog 9 33) (T4 fr true) (.exit 6) (T4 fr false) (D4 fr) f4 = true := by
  cases fr <;> kernel_rfl
/-! the whole text -/
def f0 : List (Cnd × Bool) := [(.lt (v 77) (l 0), false), (.lt (v 77) (l 10), true), (.lt (v 78) (l 0), false), (.lt (v 78) (l 10), true), (.eq (.len (.lvar 5)) (l 10), true), (.eq (v 90) (l 0), true)]
def okT : CT := .is (.bool true) []
def yesT (b : Bool) : CT := if b then okT else .bad
/-- a: the first one is done; b: the second one is, and was given an object -/
def endB (b : Bool) : CT := .node (.eq (v 21) (l 1)) (.node (.eq (v 18) (l 1)) (yesT b) (yesT !b)) (.node (.eq (v 20) (l 20)) (yesT !b) .bad)
def endA (a b : Bool) : CT := .node (.eq (v 4) (l 1)) (.node (.eq (v 1) (l 1)) (if a then endB b else .bad) .bad) (.node (.eq (v 3) (l 20)) (if a then .bad else endB b) .bad)
/-- one slot, one slab; e: the slot's list is empty -/
def shp (e : Bool) : Sh := ⟨[(e, true)], true, [true]⟩
def kcs0 (e : Bool) : Kg := fun args => kgs [kcBring (v 80) 9 35, { kcBring (v 7) 10 77 with conds := [(.eq (v 4) (l 1), true)] }, { kcBring (v 24) 10 78 with conds := [(.eq (v 21) (l 1), true), (.eq (v 18) (l 1), true)] }, kcStocked, kcWords 0 1 0 9, kcWorks] args ++ kgSl (fun n => kcSee n 9 (.agg chL) (shp e) 90 1) args
def lns0 (fr e a b : Bool) : List Ln := [L1 fr, L2 fr e, L4 fr a b]
theorem run0 (fr e a b : Bool) : treeC Try.prog [] [(0, .bool)] (kcs0 e) (lns0 fr e a b) 3 9 [.sym .i64 (v 80), .bool fr, .rsl 0] ⟨[], [], ⟨0, 0, 0, 0⟩⟩ (endA a b) f0 = true := by
  cases fr <;> cases e <;> cases a <;> cases b <;> kernel_rfl
end
end Go.Proofs.Ytigakendeghoaaa.FastAp

/-
  Contracts: link.Fresh, count.Pack. No condition.
-/
namespace Go.Proofs.Ytigakendeghoaaa.Fast
open Go Mem See
open Go.RowKit
attribute [local go_sem ↓] Go.wp_at_zero Go.wp_at_succ
/-- links that rise: the first i of n -/
def freshL (n key : Nat) : List Nat := (List.range n).map fun i => if i + 1 = n then hideW (-1) key i else hideW ((i : Int) + 1) key i
/-- .. as the loop lays them: the first i -/
def freshI (n key i : Nat) : List Nat := (List.range n).map fun j => if j < i then hideW ((j : Int) + 1) key j else 0
section
variable {W w : World} {m : List (Nat × Obj)} {n key : Nat}
theorem freshI_zero : freshI n key 0 = List.replicate n 0 := by
  apply List.ext_getElem? 
  intro j
  simp [freshI, List.getElem?_replicate]
  by_cases h : j < n <;> simp [h]
theorem freshI_len (i : Nat) : (freshI n key i).length = n := by simp [freshI]
theorem freshI_set {i : Nat} (hi : i < n) : (freshI n key i).set i (hideW ((i : Int) + 1) key i) = freshI n key (i + 1) := by
  apply List.ext_getElem?
  intro j
  rw [List.getElem?_set]
  by_cases hij : i = j
  · subst hij
    simp [freshI, hi]
  · rw [if_neg hij]
    by_cases hj : j < n
    · simp only [freshI, List.getElem?_map, List.getElem?_range hj, Option.map_some]
      by_cases h1 : j < i
      · rw [if_pos h1, if_pos (by omega)]
      · rw [if_neg h1, if_neg (by omega)]
    · rw [List.getElem?_eq_none (by simp [freshI]; omega), List.getElem?_eq_none (by simp [freshI]; omega)]
theorem fresh_last (h : 0 < n) : (freshI n key n).set (n - 1) (hideW (-1) key (n - 1)) = freshL n key := by
  apply List.ext_getElem?
  intro j
  rw [List.getElem?_set]
  by_cases hij : n - 1 = j
  · subst hij
    have h1 : n - 1 < n := by omega
    have h2 : n - 1 + 1 = n := by omega
    simp [freshL, h1, h2, freshI]
  · rw [if_neg hij]
    by_cases hj : j < n
    · simp only [freshI, freshL, List.getElem?_map, List.getElem?_range hj, Option.map_some]
      rw [if_pos hj, if_neg (by omega)]
    · rw [List.getElem?_eq_none (by simp [freshI]; omega), List.getElem?_eq_none (by simp [freshL]; omega)]
theorem turned_eq (key i : Nat) : turned key i = hideW (-1) key i := by
  unfold hideW
  simp
set_option maxRecDepth 100000 in
set_option maxHeartbeats 2000000 in
theorem fresh_spec (h : Own W m w) (h1 : 1 ≤ n) (h2 : n ≤ 16) (hk : key < 18446744073709551616) :
    Calls Try.prog 72 #[.int .i64 n, .int .u64 key] w fun e w' => ∃ b, e = .returned (.tuple #[.slice (some ⟨b, 0, none⟩) n n, .int .i64 0]) ∧ Own W (wB b (freshL n key) :: m) w' := by
  obtain ⟨i, hi, hzz, hs, hby⟩ := info_get word_info
  have hmk := fun W => run_make_rowN (P := Try.prog) 35 22 i _ Try.underlying35 hi hzz .i64 .i64 n n (Nat.le_refl _) (by rw [hby]; omega) (by omega) W
  rw [hs, Nat.mul_one, madeCells_const _ (.int .u64 0) _ (by simp [Value.cells]) (by intro j hj; obtain rfl : j = 0 := (by simp [Value.cells] at hj; omega); rfl), row_zero, ← freshI_zero (key := key)] at hmk
  clear hi hzz hs hby
  have h3 : Own W (wB w.heap.size (freshI n key 0) :: m) _ := h.new (.cells (wRow (freshI n key 0)) 22)
  obtain ⟨b, hb⟩ : ∃ b, w.heap.size = b := ⟨_, rfl⟩
  rw [hb] at h3
  have H3 := Lib.hid h3
  have HK := Lib.hid hk
  have hi1 : (1 : Int) ≤ n := by omega
  have hi2 : (n : Int) ≤ 16 := by omega
  clear h h3 hk
  go_enter Try.func72, Try.ntmps72
  go_wp2_with fail
  try rw [hb]
  obtain ⟨wa, hwa⟩ : ∃ wa, w.alloc (.cells (wRow (freshI n key 0)) 22) = wa := ⟨_, rfl⟩
  have H4 := H3.out
  rw [hwa] at H4 ⊢
  clear hwa hmk H3
  have H5 := Lib.hid H4
  clear H4
  go_loopw [18] (fun iv wr => ∃ i : Nat, iv = .int .i64 i ∧ i ≤ n ∧ Own W (wB b (freshI n key i) :: m) wr) (fun iv _ => n - (intOf iv).toNat)
  case atStart => exact ⟨0, rfl, by omega, H5.out⟩
  case round =>
    clear H5
    obtain ⟨i, rfl, hi, hr⟩ := hrel
    by_cases hlt : i < n
    · have hlti : (i : Int) < n := by omega
      have hi0 : (0 : Int) ≤ i := by omega
      have ht := fun w => turned_spec key i HK.out (by omega) w
      have hb1 := u64_xor_nat (i + 2) (turned key i) (by omega) (turned_lt key i)
      have hw2 : hideW ((i : Int) + 1) key i = (i + 2) ^^^ turned key i := by unfold hideW; congr 1
      obtain ⟨T, hT⟩ : ∃ T, turned key i = T := ⟨_, rfl⟩
      obtain ⟨X, hX⟩ : ∃ X, (i + 2) ^^^ T = X := ⟨_, rfl⟩
      rw [hT] at ht hb1 hw2
      rw [hX] at hb1 hw2
      have hb2 : bits .xor .u64 ((i : Int) + 2) (T : Int) = (X : Int) := hb1
      have HT := Lib.hid ht
      have hx1 : (freshI n key i)[i]? = some 0 := by simp [freshI, hlt]
      obtain ⟨c0, f0⟩ := cell_w hr hx1
      have h5 := set_w hr i X
      rw [← hw2, freshI_set hlt] at h5
      rw [hw2] at h5
      have H6 := Lib.hid h5
      clear ht hb1 hT hX hw2 hx1 h5 hr
      go_wp2_with (go_at_call 89; refine (HT.out _).mono ?_; rintro e w' ⟨rfl, rfl⟩)
      exact ⟨⟨i + 1, by go_num, by omega, H6.out⟩, by simp [intOf]; omega⟩
    · obtain rfl : i = n := by omega
      have hlti : ¬ (i : Int) < i := by omega
      have ht := fun w => turned_spec key (i - 1) HK.out (by omega) w
      rw [show ((i - 1 : Nat) : Int) = (i : Int) - 1 from by omega] at ht
      rw [turned_eq] at ht
      obtain ⟨T, hT⟩ : ∃ T, hideW (-1) key (i - 1) = T := ⟨_, rfl⟩
      rw [hT] at ht
      have HT := Lib.hid ht
      obtain ⟨x1, hx1⟩ : ∃ x, (freshI i key i)[i - 1]? = some x := ⟨_, List.getElem?_eq_getElem (by rw [freshI_len]; omega)⟩
      obtain ⟨q, hq⟩ : ∃ q : Nat, i - 1 = q := ⟨_, rfl⟩
      have hqi : (i : Int) - 1 = (q : Int) := by omega
      have hq1 : (q : Int) < (i : Int) := by omega
      have h5 := set_w hr (i - 1) T
      rw [← hT, fresh_last (by omega)] at h5
      rw [hT] at h5
      rw [hq] at hx1 h5
      rw [hqi] at HT
      obtain ⟨c0, f0⟩ := cell_w hr hx1
      have H6 := Lib.hid h5
      clear ht hT hx1 h5 hr
      go_wp2_with (go_at_call 89; refine (HT.out _).mono ?_; rintro e w' ⟨rfl, rfl⟩)
      go_ret2
      exact ⟨b, rfl, H6.out⟩
end
end Go.Proofs.Ytigakendeghoaaa.Fast

/-
  Contract: count.Pack. No condition.
-/
namespace Go.Proofs.Ytigakendeghoaaa.See
open Go.RowKit
attribute [local go_sem ↓] Go.wp_at_zero Go.wp_at_succ
section
variable {W w : World} {m : List (Nat × Obj)}
theorem flag_spec (f : Bool) (x : Nat) (w : World) : Calls Try.prog 92 #[.bool f, .int .u64 x] w fun e w' => e = .returned (.int .u64 ((if f then x else 0 : Nat) : Int)) ∧ w = w' := by
  cases f
  all_goals
    go_enter Try.func92, Try.ntmps92
    go_wp2_with fail
    go_ret
    exact ⟨rfl, rfl⟩
theorem flag_y (x : Nat) (w : World) : Calls Try.prog 92 #[.bool true, .int .u64 x] w fun e w' => e = .returned (.int .u64 (x : Int)) ∧ w = w' := flag_spec true x w
theorem flag_n (x : Nat) (w : World) : Calls Try.prog 92 #[.bool false, .int .u64 x] w fun e w' => e = .returned (.int .u64 0) ∧ w = w' := flag_spec false x w
theorem or_low (b a i : Nat) (h : a < 2 ^ i) : a ||| 2 ^ i * b = 2 ^ i * b + a := by
  rw [Nat.or_comm]
  exact (Nat.two_pow_add_eq_or_of_lt h b).symm
theorem pack_bits (A B F L : Nat) (ha : A ≤ 255) (hb : B ≤ 255) (hf : F = 0 ∨ F = 65536) (hl : L = 0 ∨ L = 131072) :
    bits .or .u64 (bits .or .u64 (bits .or .u64 (IntKind.u64.wrap (A : Int)) (IntKind.u64.wrap (IntKind.u64.wrap (B : Int) * 256))) (F : Int)) (L : Int) = (A : Int) + 256 * (B : Int) + (F : Int) + (L : Int) := by
  have e1 : IntKind.u64.wrap (A : Int) = (A : Int) := by rw [IntKind.wrap_u64]; omega
  have e2 : IntKind.u64.wrap (IntKind.u64.wrap (B : Int) * 256) = ((256 * B : Nat) : Int) := by rw [IntKind.wrap_u64, IntKind.wrap_u64]; omega
  rw [e1, e2, u64_or_nat A (256 * B) (by omega) (by omega)]
  have h1 := or_low B A 8 (by omega)
  rw [show (2 : Nat) ^ 8 = 256 from rfl] at h1
  rw [h1, u64_or_nat (256 * B + A) F (by omega) (by omega)]
  have h2 : (256 * B + A) ||| F = 256 * B + A + F := by
    rcases hf with rfl | rfl
    · simp
    · have := or_low 1 (256 * B + A) 16 (by omega)
      simp only [Nat.mul_one] at this
      rw [show (2 : Nat) ^ 16 = 65536 from rfl] at this
      omega
  rw [h2, u64_or_nat (256 * B + A + F) L (by omega) (by omega)]
  have h3 : (256 * B + A + F) ||| L = 256 * B + A + F + L := by
    rcases hl with rfl | rfl
    · simp
    · have := or_low 1 (256 * B + A + F) 17 (by omega)
      simp only [Nat.mul_one] at this
      rw [show (2 : Nat) ^ 17 = 131072 from rfl] at this
      omega
  rw [h3]
  omega
/-- the word of counts -/
def packN (A B : Nat) (f l : Bool) : Nat := A + 256 * B + (if f then 65536 else 0) + (if l then 131072 else 0)
theorem nB_box {b : Nat} {a o : Int} {f l : Bool} (h : Own W ((b, .cells #[.int .i64 a, .int .i64 o, .bool f, .bool l] 80) :: m) w) : w.cell? ⟨b, 0, none⟩ = some (.int .i64 a) ∧ w.cell? ⟨b, 1, none⟩ = some (.int .i64 o) ∧ w.cell? ⟨b, 2, none⟩ = some (.bool f) ∧ w.cell? ⟨b, 3, none⟩ = some (.bool l) :=
  ⟨h.cell List.mem_cons_self 0, h.cell List.mem_cons_self 1, h.cell List.mem_cons_self 2, h.cell List.mem_cons_self 3⟩
set_option maxRecDepth 100000 in
set_option maxHeartbeats 2000000 in
theorem pack_ok (h : Own W m w) (A B : Nat) (ha : A ≤ 255) (hb : B ≤ 255) (f l : Bool) (hm : mayB A B f l = true) : Calls Try.prog 74 #[.agg #[.int .i64 A, .int .i64 B, .bool f, .bool l]] w fun e w' => e = .returned (.tuple #[.int .u64 (packN A B f l : Nat), .int .i64 0]) ∧ Own W m w' := by
  have h1 := h.new (.cells #[.int .i64 A, .int .i64 B, .bool f, .bool l] 80)
  obtain ⟨g, hg⟩ : ∃ g, w.heap.size = g := ⟨_, rfl⟩
  rw [hg] at h1
  have hmm := fun ws (hs : Own W ((g, Obj.cells #[.int .i64 A, .int .i64 B, .bool f, .bool l] 80) :: m) ws) => may_spec hs A B f l
  rw [hm] at hmm
  have HM := Lib.hid hmm
  have H1 := Lib.hid h1
  obtain ⟨y0, y1, y2, y3⟩ := nB_box h1
  clear hmm h1 h hm
  cases f <;> cases l
  · go_enter Try.func74, Try.ntmps74
    go_wp2_with fail
    refine (HM.out _ H1.out).mono ?_
    rintro e w2 ⟨rfl, h2⟩
    clear y0 y1 y2 y3
    obtain ⟨y0, y1, y2, y3⟩ := nB_box h2
    go_wp2_with fail
    go_region_held3 (fun w' => w'.cell? ⟨g, 0, none⟩ = some (.int .i64 A) ∧ w'.cell? ⟨g, 1, none⟩ = some (.int .i64 B) ∧ w'.cell? ⟨g, 2, none⟩ = some (.bool false) ∧ w'.cell? ⟨g, 3, none⟩ = some (.bool false)) (first | (refine ⟨?_, ?_, ?_, ?_⟩ <;> assumption) | go_keep)
      (first | (go_at_call 92; first | (refine (flag_n 65536 _).mono ?_; rintro e w' ⟨rfl, rfl⟩) | (refine (flag_n 131072 _).mono ?_; rintro e w' ⟨rfl, rfl⟩)))
    go_wp2_with fail
    go_ret2
    refine ⟨?_, h2.drew.skip⟩
    have hpb := pack_bits A B 0 0 ha hb (by simp) (by simp)
    simp [packN] at hpb ⊢
    omega
  · go_enter Try.func74, Try.ntmps74
    go_wp2_with fail
    refine (HM.out _ H1.out).mono ?_
    rintro e w2 ⟨rfl, h2⟩
    clear y0 y1 y2 y3
    obtain ⟨y0, y1, y2, y3⟩ := nB_box h2
    go_wp2_with fail
    go_region_held3 (fun w' => w'.cell? ⟨g, 0, none⟩ = some (.int .i64 A) ∧ w'.cell? ⟨g, 1, none⟩ = some (.int .i64 B) ∧ w'.cell? ⟨g, 2, none⟩ = some (.bool false) ∧ w'.cell? ⟨g, 3, none⟩ = some (.bool true)) (first | (refine ⟨?_, ?_, ?_, ?_⟩ <;> assumption) | go_keep)
      (first | (go_at_call 92; first | (refine (flag_n 65536 _).mono ?_; rintro e w' ⟨rfl, rfl⟩) | (refine (flag_y 131072 _).mono ?_; rintro e w' ⟨rfl, rfl⟩)))
    go_wp2_with fail
    go_ret2
    refine ⟨?_, h2.drew.skip⟩
    have hpb := pack_bits A B 0 131072 ha hb (by simp) (by simp)
    simp [packN] at hpb ⊢
    omega
  · go_enter Try.func74, Try.ntmps74
    go_wp2_with fail
    refine (HM.out _ H1.out).mono ?_
    rintro e w2 ⟨rfl, h2⟩
    clear y0 y1 y2 y3
    obtain ⟨y0, y1, y2, y3⟩ := nB_box h2
    go_wp2_with fail
    go_region_held3 (fun w' => w'.cell? ⟨g, 0, none⟩ = some (.int .i64 A) ∧ w'.cell? ⟨g, 1, none⟩ = some (.int .i64 B) ∧ w'.cell? ⟨g, 2, none⟩ = some (.bool true) ∧ w'.cell? ⟨g, 3, none⟩ = some (.bool false)) (first | (refine ⟨?_, ?_, ?_, ?_⟩ <;> assumption) | go_keep)
      (first | (go_at_call 92; first | (refine (flag_y 65536 _).mono ?_; rintro e w' ⟨rfl, rfl⟩) | (refine (flag_n 131072 _).mono ?_; rintro e w' ⟨rfl, rfl⟩)))
    go_wp2_with fail
    go_ret2
    refine ⟨?_, h2.drew.skip⟩
    have hpb := pack_bits A B 65536 0 ha hb (by simp) (by simp)
    simp [packN] at hpb ⊢
    omega
  · go_enter Try.func74, Try.ntmps74
    go_wp2_with fail
    refine (HM.out _ H1.out).mono ?_
    rintro e w2 ⟨rfl, h2⟩
    clear y0 y1 y2 y3
    obtain ⟨y0, y1, y2, y3⟩ := nB_box h2
    go_wp2_with fail
    go_region_held3 (fun w' => w'.cell? ⟨g, 0, none⟩ = some (.int .i64 A) ∧ w'.cell? ⟨g, 1, none⟩ = some (.int .i64 B) ∧ w'.cell? ⟨g, 2, none⟩ = some (.bool true) ∧ w'.cell? ⟨g, 3, none⟩ = some (.bool true)) (first | (refine ⟨?_, ?_, ?_, ?_⟩ <;> assumption) | go_keep)
      (first | (go_at_call 92; first | (refine (flag_y 65536 _).mono ?_; rintro e w' ⟨rfl, rfl⟩) | (refine (flag_y 131072 _).mono ?_; rintro e w' ⟨rfl, rfl⟩)))
    go_wp2_with fail
    go_ret2
    refine ⟨?_, h2.drew.skip⟩
    have hpb := pack_bits A B 65536 131072 ha hb (by simp) (by simp)
    simp [packN] at hpb ⊢
    omega
set_option maxRecDepth 100000 in
theorem pack_bad (h : Own W m w) (a b : Int) (f l : Bool) (hm : mayB a b f l = false) : Calls Try.prog 74 #[.agg #[.int .i64 a, .int .i64 b, .bool f, .bool l]] w fun e w' => e = .returned (.tuple #[.int .u64 0, .int .i64 2]) ∧ Own W m w' := by
  have h1 := h.new (.cells #[.int .i64 a, .int .i64 b, .bool f, .bool l] 80)
  obtain ⟨g, hg⟩ : ∃ g, w.heap.size = g := ⟨_, rfl⟩
  rw [hg] at h1
  have hmm := fun ws (hs : Own W ((g, Obj.cells #[.int .i64 a, .int .i64 b, .bool f, .bool l] 80) :: m) ws) => may_spec hs a b f l
  rw [hm] at hmm
  have HM := Lib.hid hmm
  have H1 := Lib.hid h1
  obtain ⟨y0, y1, y2, y3⟩ := nB_box h1
  clear hmm h1 h hm
  go_enter Try.func74, Try.ntmps74
  go_wp2_with fail
  refine (HM.out _ H1.out).mono ?_
  rintro e w2 ⟨rfl, h2⟩
  go_wp2_with fail
  go_ret2
  exact ⟨rfl, h2.skip⟩
end
end Go.Proofs.Ytigakendeghoaaa.See

/-
  Words for the trees of steps: a task's, a chart's numbers; known calls of a memory and of the packages below. No condition.
-/
namespace Go.Proofs.Ytigakendeghoaaa.Step
open Go Ex
noncomputable section
def v (i : Nat) : SE := .var i
def l (n : Int) : SE := .lit n
def mul (a b : SE) : SE := .bin .mul a b
def add (a b : SE) : SE := .bin .add a b
def sub (a b : SE) : SE := .bin .sub a b
def sI (i : Nat) : AV := .sym .i64 (.var i)
def sU (i : Nat) : AV := .sym .u64 (.var i)
def nI (n : Int) : AV := .int .i64 n
def nU (n : Int) : AV := .int .u64 n
/-- a task: 0 Job 1 Cpu 2 Pc 3 End 4 Want 5 Slab 6 Obj 7 H 8 T 9 F 10 K 11 N 12 Last 13 Many 14 To 15 Back 16 For -/
def taskA (pc e w : AV) : List AV := [sI 0, sI 1, pc, e, w, sI 5, sI 6, sU 7, sU 8, sU 9, sU 10, sU 11, sI 12, sI 13, sI 14, sI 15, sI 16]
def setA : Nat → AV → List AV → List AV
  | _, _, [] => []
  | 0, x, _ :: r => x :: r
  | n + 1, x, y :: r => y :: setA n x r
def tset : List (Nat × AV) → List AV → List AV
  | [], t => t
  | p :: u, t => tset u (setA p.1 p.2 t)
/-- a chart: 20 Cpus 21 Slabs 22 Objects 23 Min 24 Cap 25 Key -/
def chartA : AV := .agg [sI 20, sI 21, sI 22, sI 23, sI 24, sU 25]
/-- a task that goes on: what is changed, at which place -/
def onT (pc : Int) (u : List (Nat × AV)) (s : Nat) : DM := .is (.tup [.agg (tset u (taskA (nI pc) (nI 0) (nI 0))), nI 0]) s
def brk (pc : Int) (s : Nat) : DM := onT pc [(3, nI 3)] s
/-- a chart that may be; a memory that has words -/
def factsC : List (Cnd × Bool) := [(.lt (v 20) (l 1), false), (.lt (l 8) (v 20), false), (.lt (v 21) (l 1), false), (.lt (l 32) (v 21), false), (.lt (v 22) (l 1), false), (.lt (l 16) (v 22), false), (.lt (v 23) (l 0), false), (.lt (l 32) (v 23), false), (.lt (v 24) (l 0), false), (.lt (l 32) (v 24), false), (.eq (v 30) (l 0), false)]
/-! places -/
def base : SE := mul (l 4) (v 20)
def slabs : SE := add base (l 4)
def links : SE := add slabs (mul (l 4) (v 21))
def headE : SE := mul (l 4) (v 1)
def linkE (s o : SE) : SE := add (add links (mul s (v 22))) o
def keyE (s : SE) : SE := .ubin .add (v 25) (.ubin .mul (.cv .u64 s) (l 11400714819323198485))
/-- questions -/
def cpuQ (y n : DM) : DM := .node (.lt (v 1) (l 0)) n (.node (.lt (v 1) (v 20)) (.node (.lt (v 1) (l 8)) y .bad) n)
def linkQ (s o : SE) (y n : DM) : DM := .node (.lt s (l 0)) n (.node (.lt s (v 21)) (.node (.lt o (l 0)) n (.node (.lt o (v 22)) y n)) n)
def isQ (i : Nat) (y n : DM) : DM := .node (.eq (v i) (l 1)) y n
def okQ (i : Nat) (y n : DM) : DM := .node (.eq (v i) (l 0)) y n
/-- what is known where there is a place -/
def csCpu : List (Cnd × Bool) := [(.lt (v 1) (l 0), false), (.lt (v 1) (v 20), true)]
def csLink (s o : SE) : List (Cnd × Bool) := [(.lt s (l 0), false), (.lt s (v 21), true), (.lt o (l 0), false), (.lt o (v 22), true)]
/-! known calls: the memory's -/
def kLen (f : Nat) : Kn := { f := f, args := [.ptr 0 0], res := sI 30, effs := [(0, 0, 0), (1, 1, 1)] }
def kLoad (f : Nat) (a : SE) (i : Nat) (cs : List (Cnd × Bool)) : Kn := { f := f, args := [.ptr 0 0, .sym .i64 a], conds := cs, res := .tup [sU i, nI 0], effs := [(0, 0, 2), (1, 1, 3)] }
def kLoadN (f : Nat) : Kn := { f := f, args := [.ptr 0 0, nI (-1)], res := .tup [nU 0, nI 9], effs := [(0, 0, 0), (1, 1, 1)] }
def kStore (f : Nat) (a : SE) (x : AV) (cs : List (Cnd × Bool)) : Kn := { f := f, args := [.ptr 0 0, .sym .i64 a, x], conds := cs, res := nI 0, effs := [(0, 0, 2), (1, 1, 3)] }
def kStoreN (f : Nat) (x : AV) : Kn := { f := f, args := [.ptr 0 0, nI (-1), x], res := nI 9, effs := [(0, 0, 0), (1, 1, 1)] }
def kCas2Y (f : Nat) (a : SE) (xs : List AV) (cs : List (Cnd × Bool)) : Kn := { f := f, args := .ptr 0 0 :: .sym .i64 a :: xs, conds := cs ++ [(.eq (v 41) (l 1), true)], res := .tup [.bool true, nI 0], effs := [(0, 0, 2), (1, 1, 3)] }
def kCas2F (f : Nat) (a : SE) (xs : List AV) (cs : List (Cnd × Bool)) : Kn := { f := f, args := .ptr 0 0 :: .sym .i64 a :: xs, conds := cs ++ [(.eq (v 41) (l 1), false)], res := .tup [.bool false, nI 0], effs := [(0, 0, 4), (1, 1, 5)] }
def kCas2N (f : Nat) (xs : List AV) : Kn := { f := f, args := .ptr 0 0 :: nI (-1) :: xs, res := .tup [.bool false, nI 9], effs := [(0, 0, 0), (1, 1, 1)] }
/-! known calls: what words say -/
def kHeadOfY (f : Nat) : Kn := { f := f, args := [sU 31], conds := [(.eq (v 32) (l 1), true)], res := .tup [sI 33, sI 34, .bool true] }
def kHeadOfN (f : Nat) : Kn := { f := f, args := [sU 31], conds := [(.eq (v 32) (l 1), false)], res := .tup [nI (-1), nI (-1), .bool false] }
def kHeadOf0 (f : Nat) : Kn := { f := f, args := [nU 0], res := .tup [nI (-1), nI (-1), .bool true] }
def kHeadY (f : Nat) (xs : List AV) : Kn := { f := f, args := xs, conds := [(.eq (v 37) (l 0), true)], res := .tup [sU 38, nI 0] }
def kHeadN (f : Nat) (xs : List AV) : Kn := { f := f, args := xs, conds := [(.eq (v 37) (l 0), false)], res := .tup [nU 0, nI 2] }
/-- Show: 'i' tells whether it shows something, 'i + 1' what -/
def kShowY (f i : Nat) (xs : List AV) : Kn := { f := f, args := xs, conds := [(.eq (v i) (l 1), true)], res := .tup [sI (i + 1), .bool true] }
def kShowN (f i : Nat) (xs : List AV) : Kn := { f := f, args := xs, conds := [(.eq (v i) (l 1), false)], res := .tup [nI 0, .bool false] }
def kHideY (f : Nat) (xs : List AV) : Kn := { f := f, args := xs, conds := [(.eq (v 39) (l 0), true)], res := .tup [sU 40, nI 0] }
def kHideN (f : Nat) (xs : List AV) : Kn := { f := f, args := xs, conds := [(.eq (v 39) (l 0), false)], res := .tup [nU 0, nI 2] }
end
end Go.Proofs.Ytigakendeghoaaa.Step

/-
  Contract: link.Hide. No condition.
-/
namespace Go.Proofs.Ytigakendeghoaaa.See
open Go.RowKit
attribute [local go_sem ↓] Go.wp_at_zero Go.wp_at_succ
/-- what Hide answers -/
def hideV (i : Int) (key : Nat) (n : Int) : Value := if (-1 ≤ i ∧ i < 16) ∧ (0 ≤ n ∧ n < 16) then .tuple #[.int .u64 (hideW i key n.toNat : Nat), .int .i64 0] else .tuple #[.int .u64 0, .int .i64 2]
set_option maxRecDepth 100000 in
set_option maxHeartbeats 2000000 in
theorem hide_spec (i : Int) (key : Nat) (n : Int) (hk : key < 18446744073709551616) (w : World) : Calls Try.prog 116 #[.int .i64 i, .int .u64 key, .int .i64 n] w fun e w' => e = .returned (hideV i key n) ∧ w = w' := by
  have ho := fun w => object_spec i w
  have hn := fun w => object_spec n w
  unfold hideV
  by_cases hi : -1 ≤ i ∧ i < 16
  · by_cases hnn : 0 ≤ n ∧ n < 16
    · rw [if_pos ⟨hi, hnn⟩]
      obtain ⟨n, rfl⟩ : ∃ k : Nat, n = k := ⟨n.toNat, by omega⟩
      have ht := fun w => turned_spec key n hk (by omega) w
      have hb := u64_xor_nat (i + 1).toNat (turned key n) (by omega) (turned_lt key n)
      rw [show (((i + 1).toNat : Nat) : Int) = i + 1 from by omega] at hb
      have hw : IntKind.u64.wrap (i + 1) = i + 1 := by rw [IntKind.wrap_u64]; omega
      rw [oIs_yes hnn] at hn
      rw [Int.toNat_natCast]
      unfold hideW
      obtain ⟨T, hT⟩ : ∃ T, turned key n = T := ⟨_, rfl⟩
      obtain ⟨X, hX⟩ : ∃ X, (i + 1).toNat ^^^ T = X := ⟨_, rfl⟩
      rw [hT] at ht hb ⊢
      rw [hX] at hb ⊢
      have HT := Lib.hid ht
      have HN := Lib.hid hn
      by_cases h1 : i = -1
      · subst h1
        rw [show (-1 : Int) + 1 = 0 from rfl] at hb hw
        clear ht hn hT hX hk ho
        go_enter Try.func116, Try.ntmps116
        go_wp2_with (first | (go_at_call 125; refine (HN.out _).mono ?_; rintro e w' ⟨rfl, rfl⟩) | (go_at_call 89; refine (HT.out _).mono ?_; rintro e w' ⟨rfl, rfl⟩))
        go_ret2
        exact ⟨rfl, rfl⟩
      · rw [oIs_yes (by omega)] at ho
        have HO := Lib.hid ho
        have hne : (i != -1) = true := by simpa using h1
        clear ht hn hT hX hk ho
        go_enter Try.func116, Try.ntmps116
        go_wp2_with (first | (go_at_call 125; first | (refine (HO.out _).mono ?_; rintro e w' ⟨rfl, rfl⟩) | (refine (HN.out _).mono ?_; rintro e w' ⟨rfl, rfl⟩)) | (go_at_call 89; refine (HT.out _).mono ?_; rintro e w' ⟨rfl, rfl⟩))
        go_ret2
        exact ⟨rfl, rfl⟩
    · rw [if_neg (fun h => hnn h.2)]
      rw [oIs_no hnn] at hn
      have HN := Lib.hid hn
      by_cases h1 : i = -1
      · subst h1
        clear hn ho hk
        go_enter Try.func116, Try.ntmps116
        go_wp2_with (go_at_call 125; refine (HN.out _).mono ?_; rintro e w' ⟨rfl, rfl⟩)
        go_ret2
        exact ⟨rfl, rfl⟩
      · rw [oIs_yes (by omega)] at ho
        have HO := Lib.hid ho
        have hne : (i != -1) = true := by simpa using h1
        clear hn ho hk
        go_enter Try.func116, Try.ntmps116
        go_wp2_with (go_at_call 125; first | (refine (HO.out _).mono ?_; rintro e w' ⟨rfl, rfl⟩) | (refine (HN.out _).mono ?_; rintro e w' ⟨rfl, rfl⟩))
        go_ret2
        exact ⟨rfl, rfl⟩
  · rw [if_neg (fun h => hi h.1)]
    rw [oIs_no (by omega)] at ho
    have HO := Lib.hid ho
    have hne : (i != -1) = true := by simp; omega
    clear hn ho hk
    go_enter Try.func116, Try.ntmps116
    go_wp2_with (go_at_call 125; refine (HO.out _).mono ?_; rintro e w' ⟨rfl, rfl⟩)
    go_ret2
    exact ⟨rfl, rfl⟩
end Go.Proofs.Ytigakendeghoaaa.See

/-
  The known calls of steps' trees are what the memory, and the packages below, do. No condition.
-/
namespace Go.Proofs.Ytigakendeghoaaa.Step
open Go Ex Mem See
open Go.RowKit (Below)
/-- a memory's two blocks, as they may be: at first, behind a step's access that does what it asks, behind one that does not -/
def ωM (N k : Nat) (g g1 g2 : List Nat) : Nat → Nat → Nat → Obj := fun i b0 b1 => match i with
  | 0 => (mB b0 b1 N k).2
  | 1 => (wB b1 g).2
  | 2 => (mB b0 b1 N (k + 1)).2
  | 3 => (wB b1 g1).2
  | 4 => (mB b0 b1 N (k + 1)).2
  | _ => (wB b1 g2).2
theorem below_self (w : World) : Below w.heap.size w w := Below.refl _ _
theorem fnok_Len : FnOk Try.prog 76 := ⟨Try.f76, _, Try.func76, by kernel_rfl, rfl⟩
theorem fnok_Load : FnOk Try.prog 124 := ⟨Try.f124, _, Try.func124, by kernel_rfl, rfl⟩
theorem fnok_Store : FnOk Try.prog 49 := ⟨Try.f49, _, Try.func49, by kernel_rfl, rfl⟩
theorem fnok_Cas2 : FnOk Try.prog 129 := ⟨Try.f129, _, Try.func129, by kernel_rfl, rfl⟩
theorem fnok_HeadOf : FnOk Try.prog 80 := ⟨Try.f80, _, Try.func80, by kernel_rfl, rfl⟩
theorem fnok_Head : FnOk Try.prog 73 := ⟨Try.f73, _, Try.func73, by kernel_rfl, rfl⟩
theorem fnok_Show : FnOk Try.prog 114 := ⟨Try.f114, _, Try.func114, by kernel_rfl, rfl⟩
theorem fnok_Hide : FnOk Try.prog 116 := ⟨Try.f116, _, Try.func116, by kernel_rfl, rfl⟩
section
variable {σ : Nat → Int} {N k : Nat} {g g1 g2 : List Nat}
theorem kn_len (hN : σ 30 = N) : KnAll Try.prog [] σ (ωM N k g g1 g2) [kLen 76] :=
  kn_mem (s := 0) (s' := 0) (xs := []) rfl rfl rfl rfl fnok_Len rfl fun _ W w m b0 b1 h => by
    refine (len_spec (b0 := b0) (b1 := b1) (N := N) (k := k) h).mono ?_
    rintro e w' ⟨rfl, h2⟩
    exact ⟨by simp [kLen, Ex.valOf, sI, SE.ev, hN], h2⟩
theorem kn_load {a : SE} {i : Nat} {cs : List (Cnd × Bool)} (hN : g.length = N) (hN2 : N ≤ 4096) (hk : k ≤ 1000000000) (hg : g1 = g) (hc : (∀ c ∈ cs, c.1.ev σ = c.2) → ∃ j x : Nat, a.ev σ = j ∧ g[j]? = some x ∧ σ i = x) :
    KnAll Try.prog [] σ (ωM N k g g1 g2) [kLoad 124 a i cs] :=
  kn_mem (s := 0) (s' := 1) (xs := [.sym .i64 a]) rfl rfl rfl rfl fnok_Load rfl fun hcs W w m b0 b1 h => by
    obtain ⟨j, x, h1, h2, h3⟩ := hc hcs
    have := load_in (b0 := b0) (b1 := b1) (N := N) (k := k) h h2 hN hN2 hk
    simp only [Ex.valsOf, Ex.valOf, h1]
    refine this.mono ?_
    rintro e w' ⟨rfl, h4⟩
    exact ⟨by simp [kLoad, Ex.valOf, Ex.valsOf, sU, nI, SE.ev, h3], by rw [hg]; exact h4⟩
theorem kn_loadN (hN2 : N ≤ 4096) (hk : k ≤ 1000000000) : KnAll Try.prog [] σ (ωM N k g g1 g2) [kLoadN 124] :=
  kn_mem (s := 0) (s' := 0) (xs := [nI (-1)]) rfl rfl rfl rfl fnok_Load rfl fun hcs W w m b0 b1 h => by
    have := load_bad (b0 := b0) (b1 := b1) (N := N) (k := k) h (-1) (.inl (by decide)) hN2 hk
    refine this.mono ?_
    rintro e w' ⟨rfl, h4⟩
    exact ⟨rfl, h4⟩
theorem kn_store {a e : SE} {cs : List (Cnd × Bool)} (hN : g.length = N) (hN2 : N ≤ 4096) (hk : k ≤ 1000000000) (hc : (∀ c ∈ cs, c.1.ev σ = c.2) → ∃ j x y : Nat, a.ev σ = j ∧ g[j]? = some x ∧ e.ev σ = y ∧ g1 = g.set j y) :
    KnAll Try.prog [] σ (ωM N k g g1 g2) [kStore 49 a (.sym .u64 e) cs] :=
  kn_mem (s := 0) (s' := 1) (xs := [.sym .i64 a, .sym .u64 e]) rfl rfl rfl rfl fnok_Store rfl fun hcs W w m b0 b1 h => by
    obtain ⟨j, x, y, h1, h2, h3, h5⟩ := hc hcs
    have := store_in (b0 := b0) (b1 := b1) (N := N) (k := k) y h h2 hN hN2 hk
    simp only [Ex.valsOf, Ex.valOf, h1, h3]
    refine this.mono ?_
    rintro e w' ⟨rfl, h4⟩
    exact ⟨rfl, by rw [h5]; exact h4⟩
theorem kn_storeN {e : SE} (hN2 : N ≤ 4096) (hk : k ≤ 1000000000) (he : ∃ y : Nat, e.ev σ = y) : KnAll Try.prog [] σ (ωM N k g g1 g2) [kStoreN 49 (.sym .u64 e)] :=
  kn_mem (s := 0) (s' := 0) (xs := [nI (-1), .sym .u64 e]) rfl rfl rfl rfl fnok_Store rfl fun hcs W w m b0 b1 h => by
    obtain ⟨y, hy⟩ := he
    have := store_bad (b0 := b0) (b1 := b1) (N := N) (k := k) y h (-1) (.inl (by decide)) hN2 hk
    simp only [Ex.valsOf, Ex.valOf, hy, nI]
    refine this.mono ?_
    rintro e w' ⟨rfl, h4⟩
    exact ⟨rfl, h4⟩
/-- the four numbers of a Cas2 -/
def cas2Xs (a b c d : SE) : List AV := [.sym .u64 a, .sym .u64 b, .sym .u64 c, .sym .u64 d]
theorem kn_cas2Y {p a b c d : SE} {cs : List (Cnd × Bool)} (hN : g.length = N) (hN2 : N ≤ 4096) (hk : k ≤ 1000000000)
    (hc : (∀ q ∈ cs, q.1.ev σ = q.2) → ∃ j x y a' b' c' d' : Nat, p.ev σ = j ∧ g[j]? = some x ∧ g[j + 1]? = some y ∧ a.ev σ = a' ∧ b.ev σ = b' ∧ c.ev σ = c' ∧ d.ev σ = d' ∧ σ 41 = (if x = a' ∧ y = b' then 1 else 0) ∧ (x = a' ∧ y = b' → g1 = (g.set j c').set (j + 1) d')) :
    KnAll Try.prog [] σ (ωM N k g g1 g2) [kCas2Y 129 p (cas2Xs a b c d) cs] :=
  kn_mem (s := 0) (s' := 1) (xs := .sym .i64 p :: cas2Xs a b c d) rfl rfl rfl rfl fnok_Cas2 rfl fun hcs W w m b0 b1 h => by
    obtain ⟨j, x, y, a', b', c', d', h1, h2, h3, h4, h5, h6, h7, h8, h9⟩ := hc fun q hq => hcs q (List.mem_append_left _ hq)
    have h10 := hcs (.eq (v 41) (l 1), true) (List.mem_append_right _ List.mem_cons_self)
    simp only [Cnd.ev, SE.ev, v, l, h8, beq_iff_eq] at h10
    have hxy : x = a' ∧ y = b' := by
      by_cases hh : x = a' ∧ y = b'
      · exact hh
      · rw [if_neg hh] at h10; cases h10
    have := cas2_in (b0 := b0) (b1 := b1) (N := N) (k := k) a' b' c' d' h h2 h3 (t := true) (g' := g1) ⟨by rw [decide_eq_true hxy], by rw [if_pos hxy]; exact h9 hxy⟩ hN hN2 hk
    simp only [cas2Xs, Ex.valsOf, Ex.valOf, h1, h4, h5, h6, h7]
    refine this.mono ?_
    rintro e w' ⟨rfl, h11⟩
    exact ⟨rfl, h11⟩
theorem kn_cas2F {p a b c d : SE} {cs : List (Cnd × Bool)} (hN : g.length = N) (hN2 : N ≤ 4096) (hk : k ≤ 1000000000) (hg : g2 = g)
    (hc : (∀ q ∈ cs, q.1.ev σ = q.2) → ∃ j x y a' b' c' d' : Nat, p.ev σ = j ∧ g[j]? = some x ∧ g[j + 1]? = some y ∧ a.ev σ = a' ∧ b.ev σ = b' ∧ c.ev σ = c' ∧ d.ev σ = d' ∧ σ 41 = (if x = a' ∧ y = b' then 1 else 0)) :
    KnAll Try.prog [] σ (ωM N k g g1 g2) [kCas2F 129 p (cas2Xs a b c d) cs] :=
  kn_mem (s := 0) (s' := 2) (xs := .sym .i64 p :: cas2Xs a b c d) rfl rfl rfl rfl fnok_Cas2 rfl fun hcs W w m b0 b1 h => by
    obtain ⟨j, x, y, a', b', c', d', h1, h2, h3, h4, h5, h6, h7, h8⟩ := hc fun q hq => hcs q (List.mem_append_left _ hq)
    have h10 := hcs (.eq (v 41) (l 1), false) (List.mem_append_right _ List.mem_cons_self)
    simp only [Cnd.ev, SE.ev, v, l, h8] at h10
    have hxy : ¬ (x = a' ∧ y = b') := fun hh => by rw [if_pos hh] at h10; simp at h10
    have := cas2_in (b0 := b0) (b1 := b1) (N := N) (k := k) a' b' c' d' h h2 h3 (t := false) (g' := g2) ⟨by rw [decide_eq_false hxy], by rw [if_neg hxy]; exact hg⟩ hN hN2 hk
    simp only [cas2Xs, Ex.valsOf, Ex.valOf, h1, h4, h5, h6, h7]
    refine this.mono ?_
    rintro e w' ⟨rfl, h11⟩
    exact ⟨rfl, h11⟩
theorem kn_cas2N {a b c d : SE} (hN2 : N ≤ 4096) (hk : k ≤ 1000000000) (hc : ∃ a' b' c' d' : Nat, a.ev σ = a' ∧ b.ev σ = b' ∧ c.ev σ = c' ∧ d.ev σ = d') :
    KnAll Try.prog [] σ (ωM N k g g1 g2) [kCas2N 129 (cas2Xs a b c d)] :=
  kn_mem (s := 0) (s' := 0) (xs := nI (-1) :: cas2Xs a b c d) rfl rfl rfl rfl fnok_Cas2 rfl fun hcs W w m b0 b1 h => by
    obtain ⟨a', b', c', d', h4, h5, h6, h7⟩ := hc
    have := cas2_bad (b0 := b0) (b1 := b1) (N := N) (k := k) a' b' c' d' h (-1) (.inl (by decide)) hN2 hk
    simp only [cas2Xs, Ex.valsOf, Ex.valOf, nI, h4, h5, h6, h7]
    refine this.mono ?_
    rintro e w' ⟨rfl, h11⟩
    exact ⟨rfl, h11⟩
/-! what words say -/
theorem kn_headOf {ω : Nat → Nat → Nat → Obj} (x : Nat) (hx : x < 18446744073709551616) (h1 : σ 31 = x) (h2 : σ 32 = if (headOf x).isSome then 1 else 0) (h3 : ∀ s o, headOf x = some (s, o) → σ 33 = s ∧ σ 34 = o) :
    KnAll Try.prog [] σ ω [kHeadOfY 80, kHeadOfN 80, kHeadOf0 80] := by
  refine (kn_pure (k := kHeadOfY 80) rfl rfl rfl fnok_HeadOf fun hcs w => ?_).cons ((kn_pure (k := kHeadOfN 80) rfl rfl rfl fnok_HeadOf fun hcs w => ?_).cons ((kn_pure (k := kHeadOf0 80) rfl rfl rfl fnok_HeadOf fun hcs w => ?_).cons knAll_nil))
  · have h10 := hcs (.eq (v 32) (l 1), true) List.mem_cons_self
    simp only [Cnd.ev, SE.ev, v, l, h2, beq_iff_eq] at h10
    have := headOf_spec x hx w
    simp only [kHeadOfY, Ex.valsOf, Ex.valOf, sU, SE.ev, h1]
    refine this.mono ?_
    rintro e w' ⟨rfl, rfl⟩
    refine ⟨?_, below_self w⟩
    unfold headV
    cases hh : headOf x with
    | none => rw [hh] at h10; cases h10
    | some p =>
      obtain ⟨s, o⟩ := p
      obtain ⟨e1, e2⟩ := h3 s o hh
      simp [sI, Ex.valOf, SE.ev, e1, e2]
  · have h10 := hcs (.eq (v 32) (l 1), false) List.mem_cons_self
    simp only [Cnd.ev, SE.ev, v, l, h2] at h10
    have := headOf_spec x hx w
    simp only [kHeadOfN, Ex.valsOf, Ex.valOf, sU, SE.ev, h1]
    refine this.mono ?_
    rintro e w' ⟨rfl, rfl⟩
    refine ⟨?_, below_self w⟩
    unfold headV
    cases hh : headOf x with
    | none => rfl
    | some p => rw [hh] at h10; simp at h10
  · have := headOf_spec 0 (by decide) w
    refine this.mono ?_
    rintro e w' ⟨rfl, rfl⟩
    exact ⟨rfl, below_self w⟩
/-- Head's answer: an error, a word -/
def headR (s o : Int) : Int × Nat := if headOk s o then (0, headW s o) else if s = -1 ∧ o = -1 then (0, 0) else (2, 0)
theorem kn_head {ω : Nat → Nat → Nat → Obj} {a b : Nat} (h1 : σ 37 = (headR (σ a) (σ b)).1) (h2 : σ 38 = (headR (σ a) (σ b)).2) : KnAll Try.prog [] σ ω [kHeadY 73 [sI a, sI b], kHeadN 73 [sI a, sI b]] := by
  have key : ∀ w, Calls Try.prog 73 #[.int .i64 (σ a), .int .i64 (σ b)] w fun e w' => e = .returned (.tuple #[.int .u64 ((headR (σ a) (σ b)).2 : Nat), .int .i64 (headR (σ a) (σ b)).1]) ∧ w = w' := by
    intro w
    unfold headR
    by_cases h : headOk (σ a) (σ b)
    · rw [if_pos h]
      exact head_ok _ _ h w
    · rw [if_neg h]
      by_cases hn : σ a = -1 ∧ σ b = -1
      · rw [if_pos hn, hn.1, hn.2]
        exact head_none w
      · rw [if_neg hn]
        exact head_bad _ _ h hn w
  refine (kn_pure (k := kHeadY 73 [sI a, sI b]) rfl rfl rfl fnok_Head fun hcs w => ?_).cons ((kn_pure (k := kHeadN 73 [sI a, sI b]) rfl rfl rfl fnok_Head fun hcs w => ?_).cons knAll_nil)
  · have h10 := hcs (.eq (v 37) (l 0), true) List.mem_cons_self
    simp only [Cnd.ev, SE.ev, v, l, h1, beq_iff_eq] at h10
    simp only [kHeadY, Ex.valsOf, Ex.valOf, sI, SE.ev]
    refine (key w).mono ?_
    rintro e w' ⟨rfl, rfl⟩
    exact ⟨by simp [Ex.valOf, Ex.valsOf, sU, nI, SE.ev, h2, h10], below_self w⟩
  · have h10 := hcs (.eq (v 37) (l 0), false) List.mem_cons_self
    simp only [Cnd.ev, SE.ev, v, l, h1] at h10
    simp only [kHeadN, Ex.valsOf, Ex.valOf, sI, SE.ev]
    refine (key w).mono ?_
    rintro e w' ⟨rfl, rfl⟩
    refine ⟨?_, below_self w⟩
    unfold headR at h10 ⊢
    by_cases h : headOk (σ a) (σ b)
    · rw [if_pos h] at h10; simp at h10
    · rw [if_neg h] at h10 ⊢
      by_cases hn : σ a = -1 ∧ σ b = -1
      · rw [if_pos hn] at h10; simp at h10
      · rw [if_neg hn]; rfl
/-- what a link shows, at whatever it is -/
def showG (x key : Nat) (n : Int) : Option Int := if 0 ≤ n ∧ n < 16 then showOf x key n.toNat else none
theorem kn_show {ω : Nat → Nat → Nat → Obj} {wv : AV} {e : SE} {b i x key : Nat} (hw : wv.shut = true) (hx : x < 18446744073709551616) (hk : key < 18446744073709551616) (h0 : Ex.valOf σ wv = .int .u64 (x : Int)) (h1 : e.ev σ = key) (h2 : σ i = if (showG x key (σ b)).isSome then 1 else 0) (h3 : ∀ s, showG x key (σ b) = some s → σ (i + 1) = s) :
    KnAll Try.prog [] σ ω [kShowY 114 i [wv, .sym .u64 e, sI b], kShowN 114 i [wv, .sym .u64 e, sI b]] := by
  have key2 : ∀ w, Calls Try.prog 114 #[.int .u64 x, .int .u64 key, .int .i64 (σ b)] w fun r w' => r = .returned (match showG x key (σ b) with | some i => .tuple #[.int .i64 i, .bool true] | none => .tuple #[.int .i64 0, .bool false]) ∧ w = w' := by
    intro w
    unfold showG
    by_cases h : 0 ≤ σ b ∧ σ b < 16
    · rw [if_pos h]
      have := show_ok x key (σ b).toNat hx hk (by omega) w
      rw [show (((σ b).toNat : Nat) : Int) = σ b from by omega] at this
      exact this
    · rw [if_neg h]
      exact show_bad _ _ _ h w
  have ha : AV.shuts [wv, .sym .u64 e, sI b] = true := by simp [AV.shuts, hw, AV.shut, sI]
  refine (kn_pure (k := kShowY 114 i [wv, .sym .u64 e, sI b]) ha rfl rfl fnok_Show fun hcs w => ?_).cons ((kn_pure (k := kShowN 114 i [wv, .sym .u64 e, sI b]) ha rfl rfl fnok_Show fun hcs w => ?_).cons knAll_nil)
  · have h10 := hcs (.eq (v i) (l 1), true) List.mem_cons_self
    simp only [Cnd.ev, SE.ev, v, l, h2, beq_iff_eq] at h10
    simp only [kShowY, Ex.valsOf, h0, Ex.valOf, sI, SE.ev, h1]
    refine (key2 w).mono ?_
    rintro e w' ⟨rfl, rfl⟩
    refine ⟨?_, below_self w⟩
    cases hh : showG x key (σ b) with
    | none => rw [hh] at h10; cases h10
    | some s => simp [h3 s hh]
  · have h10 := hcs (.eq (v i) (l 1), false) List.mem_cons_self
    simp only [Cnd.ev, SE.ev, v, l, h2] at h10
    simp only [kShowN, Ex.valsOf, h0, Ex.valOf, sI, SE.ev, h1]
    refine (key2 w).mono ?_
    rintro e w' ⟨rfl, rfl⟩
    refine ⟨?_, below_self w⟩
    cases hh : showG x key (σ b) with
    | none => rfl
    | some s => rw [hh] at h10; simp at h10
/-- Hide's answer: an error, a word -/
def hideR (i : Int) (key : Nat) (n : Int) : Int × Nat := if (-1 ≤ i ∧ i < 16) ∧ (0 ≤ n ∧ n < 16) then (0, hideW i key n.toNat) else (2, 0)
theorem kn_hide {ω : Nat → Nat → Nat → Obj} {e : SE} {a b key : Nat} (hk : key < 18446744073709551616) (h0 : e.ev σ = key) (h1 : σ 39 = (hideR (σ a) key (σ b)).1) (h2 : σ 40 = (hideR (σ a) key (σ b)).2) :
    KnAll Try.prog [] σ ω [kHideY 116 [sI a, .sym .u64 e, sI b], kHideN 116 [sI a, .sym .u64 e, sI b]] := by
  have hv : hideV (σ a) key (σ b) = .tuple #[.int .u64 ((hideR (σ a) key (σ b)).2 : Nat), .int .i64 (hideR (σ a) key (σ b)).1] := by
    unfold hideV hideR
    split <;> rfl
  refine (kn_pure (k := kHideY 116 [sI a, .sym .u64 e, sI b]) rfl rfl rfl fnok_Hide fun hcs w => ?_).cons ((kn_pure (k := kHideN 116 [sI a, .sym .u64 e, sI b]) rfl rfl rfl fnok_Hide fun hcs w => ?_).cons knAll_nil)
  · have h10 := hcs (.eq (v 39) (l 0), true) List.mem_cons_self
    simp only [Cnd.ev, SE.ev, v, l, h1, beq_iff_eq] at h10
    simp only [kHideY, Ex.valsOf, Ex.valOf, sI, SE.ev, h0]
    refine (hide_spec _ _ _ hk w).mono ?_
    rintro e w' ⟨rfl, rfl⟩
    rw [hv]
    exact ⟨by simp [Ex.valOf, Ex.valsOf, sU, nI, SE.ev, h2, h10], below_self w⟩
  · have h10 := hcs (.eq (v 39) (l 0), false) List.mem_cons_self
    simp only [Cnd.ev, SE.ev, v, l, h1] at h10
    simp only [kHideN, Ex.valsOf, Ex.valOf, sI, SE.ev, h0]
    refine (hide_spec _ _ _ hk w).mono ?_
    rintro e w' ⟨rfl, rfl⟩
    rw [hv]
    refine ⟨?_, below_self w⟩
    unfold hideR at h10 ⊢
    by_cases h : (-1 ≤ σ a ∧ σ a < 16) ∧ (0 ≤ σ b ∧ σ b < 16)
    · rw [if_pos h] at h10; simp at h10
    · rw [if_neg h]; rfl
end
end Go.Proofs.Ytigakendeghoaaa.Step

/-
  Tasks and charts in plain Lean; what the numbers of a step's tree are. No condition.
-/
namespace Go.Proofs.Ytigakendeghoaaa.Step
open Go Ex Mem See
open chartPlaces (Ok)
/-- a task -/
structure TaskP where
  job : Int := 0
  cpu : Int := 0
  pc : Int := 0
  end_ : Int := 0
  want : Int := 0
  slab : Int := 0
  obj : Int := 0
  h : Nat := 0
  t : Nat := 0
  f : Nat := 0
  k : Nat := 0
  n : Nat := 0
  last : Int := 0
  many : Int := 0
  dst : Int := 0
  back : Int := 0
  for_ : Int := 0
  deriving DecidableEq
def TaskP.v (t : TaskP) : Value := .agg #[.int .i64 t.job, .int .i64 t.cpu, .int .i64 t.pc, .int .i64 t.end_, .int .i64 t.want, .int .i64 t.slab, .int .i64 t.obj, .int .u64 (t.h : Int), .int .u64 (t.t : Int), .int .u64 (t.f : Int), .int .u64 (t.k : Int), .int .u64 (t.n : Int), .int .i64 t.last, .int .i64 t.many, .int .i64 t.dst, .int .i64 t.back, .int .i64 t.for_]
/-- its words are words -/
structure TaskP.W (x : TaskP) : Prop where
  h : x.h < 18446744073709551616
  t : x.t < 18446744073709551616
  f : x.f < 18446744073709551616
  k : x.k < 18446744073709551616
  n : x.n < 18446744073709551616
def TaskP.brk (t : TaskP) : TaskP := { t with end_ := 3 }
/-- the numbers of a tree: the task's, the chart's, the memory's length, the word that is read, others -/
def sg (t : TaskP) (c : Ch) (d e : Int) (N x : Nat) (r : List Int) : Nat → Int := fun i =>
  [t.job, t.cpu, t.pc, t.end_, t.want, t.slab, t.obj, (t.h : Int), (t.t : Int), (t.f : Int), (t.k : Int), (t.n : Int), t.last, t.many, t.dst, t.back, t.for_, 0, 0, 0, (c.C : Int), (c.S : Int), (c.O : Int), d, e, (c.key : Int), 0, 0, 0, 0, (N : Int), (x : Int),
    r.getD 0 0, r.getD 1 0, r.getD 2 0, r.getD 3 0, r.getD 4 0, r.getD 5 0, r.getD 6 0, r.getD 7 0, r.getD 8 0, r.getD 9 0, r.getD 10 0, r.getD 11 0, r.getD 12 0, r.getD 13 0, r.getD 14 0, r.getD 15 0, r.getD 16 0, r.getD 17 0, r.getD 18 0, r.getD 19 0].getD i 0
section
variable {t : TaskP} {c : Ch} {d e : Int} {N x key : Nat} {r : List Int} {g : List Nat} {i s o : Int}
theorem factsC_ok (hc : COk c d e) (hN : N ≠ 0) : ∀ f ∈ factsC, f.1.ev (sg t c d e N x r) = f.2 := by
  have h := hc.ok
  unfold Ok at h
  have e20 : sg t c d e N x r 20 = c.C := rfl
  have e21 : sg t c d e N x r 21 = c.S := rfl
  have e22 : sg t c d e N x r 22 = c.O := rfl
  have e23 : sg t c d e N x r 23 = d := rfl
  have e24 : sg t c d e N x r 24 = e := rfl
  have e30 : sg t c d e N x r 30 = N := rfl
  intro f hf
  simp only [factsC, List.mem_cons, List.not_mem_nil, or_false] at hf
  rcases hf with rfl | rfl | rfl | rfl | rfl | rfl | rfl | rfl | rfl | rfl | rfl <;> simp only [Cnd.ev, SE.ev, v, l, e20, e21, e22, e23, e24, e30, decide_eq_false_iff_not, beq_eq_false_iff_ne] <;> omega
/-- places, as numbers -/
theorem wrap_id {n : Int} (h : -9223372036854775808 ≤ n ∧ n ≤ 9223372036854775807) : IntKind.i64.wrap n = n := Apart.wrap_id h
def cpuOk (c : Ch) (i : Int) : Prop := 0 ≤ i ∧ i < c.C
instance (c : Ch) (i : Int) : Decidable (cpuOk c i) := inferInstanceAs (Decidable (0 ≤ i ∧ i < c.C))
def slabOk (c : Ch) (i : Int) : Prop := 0 ≤ i ∧ i < c.S
instance (c : Ch) (i : Int) : Decidable (slabOk c i) := inferInstanceAs (Decidable (0 ≤ i ∧ i < c.S))
def linkOk (c : Ch) (s o : Int) : Prop := (0 ≤ s ∧ s < c.S) ∧ (0 ≤ o ∧ o < c.O)
instance (c : Ch) (s o : Int) : Decidable (linkOk c s o) := inferInstanceAs (Decidable ((0 ≤ s ∧ s < c.S) ∧ (0 ≤ o ∧ o < c.O)))
/-- where a processor's head is, its part, a slab's first, its next, an object's link -/
def headN (i : Int) : Nat := 4 * i.toNat
def partN (i : Int) : Nat := 4 * i.toNat + 2
def firstN (c : Ch) (s : Int) : Nat := 4 * c.C + 4 + 4 * s.toNat
def nextN (c : Ch) (s : Int) : Nat := 4 * c.C + 4 + 4 * s.toNat + 2
def linkN (c : Ch) (s o : Int) : Nat := 4 * c.C + 4 + 4 * c.S + s.toNat * c.O + o.toNat
theorem head_lt (h : cpuOk c i) : headN i + 3 < c.words := by
  unfold cpuOk at h
  unfold headN Ch.words
  omega
theorem first_lt (h : slabOk c s) : firstN c s + 3 < c.words := by
  unfold slabOk at h
  unfold firstN Ch.words
  omega
theorem link_lt (h : linkOk c s o) : linkN c s o < c.words := by
  unfold linkOk at h
  unfold linkN Ch.words
  have h1 : s.toNat * c.O + c.O ≤ c.S * c.O := by
    have := Nat.mul_le_mul_right c.O (show s.toNat + 1 ≤ c.S by omega)
    rwa [Nat.add_mul, Nat.one_mul] at this
  omega
theorem headE_ev (hc : COk c d e) (h : cpuOk c t.cpu) : headE.ev (sg t c d e N x r) = (headN t.cpu : Nat) := by
  have h1 := hc.nums
  unfold cpuOk at h
  have e1 : sg t c d e N x r 1 = t.cpu := rfl
  simp only [headE, mul, v, l, SE.ev, e1]
  rw [wrap_id (by omega)]
  unfold headN
  omega
theorem head1_ev (hc : COk c d e) (h : cpuOk c t.cpu) : (add headE (l 1)).ev (sg t c d e N x r) = (headN t.cpu + 1 : Nat) := by
  have h0 := headE_ev (N := N) (x := x) (r := r) hc h
  have h1 := hc.nums
  unfold cpuOk at h
  simp only [add, l, SE.ev, h0]
  unfold headN
  rw [wrap_id (by omega)]
  omega
theorem linkE_ev (hc : COk c d e) {a b : Nat} (h : linkOk c (sg t c d e N x r a) (sg t c d e N x r b)) : (linkE (v a) (v b)).ev (sg t c d e N x r) = (linkN c (sg t c d e N x r a) (sg t c d e N x r b) : Nat) := by
  have h1 := hc.nums
  obtain ⟨s, hs⟩ : ∃ s, sg t c d e N x r a = s := ⟨_, rfl⟩
  obtain ⟨o, ho⟩ : ∃ o, sg t c d e N x r b = o := ⟨_, rfl⟩
  rw [hs, ho] at h ⊢
  unfold linkOk at h
  obtain ⟨s, rfl⟩ : ∃ n : Nat, s = n := ⟨s.toNat, by omega⟩
  obtain ⟨o, rfl⟩ : ∃ n : Nat, o = n := ⟨o.toNat, by omega⟩
  have e20 : sg t c d e N x r 20 = c.C := rfl
  have e21 : sg t c d e N x r 21 = c.S := rfl
  have e22 : sg t c d e N x r 22 = c.O := rfl
  simp only [linkE, links, slabs, base, add, mul, v, l, SE.ev, e20, e21, e22, hs, ho]
  have hm : s * c.O ≤ 32 * 16 := Nat.mul_le_mul (by omega) (by omega)
  have hmi : (s : Int) * (c.O : Int) = ((s * c.O : Nat) : Int) := by rw [Int.natCast_mul]
  rw [hmi]
  rw [wrap_id (n := 4 * (c.C : Int)) (by omega), wrap_id (n := 4 * (c.C : Int) + 4) (by omega), wrap_id (n := 4 * (c.S : Int)) (by omega), wrap_id (n := 4 * (c.C : Int) + 4 + 4 * (c.S : Int)) (by omega), wrap_id (n := ((s * c.O : Nat) : Int)) (by omega), wrap_id (n := 4 * (c.C : Int) + 4 + 4 * (c.S : Int) + ((s * c.O : Nat) : Int)) (by omega), wrap_id (by omega)]
  unfold linkN
  simp only [Int.toNat_natCast]
  omega
/-- the key of a slab, whatever number it is -/
def keyG (key : Nat) (s : Int) : Nat := (IntKind.u64.wrap ((key : Int) + IntKind.u64.wrap (IntKind.u64.wrap s * 11400714819323198485))).toNat
theorem keyG_lt (key : Nat) (s : Int) : keyG key s < 18446744073709551616 := by
  unfold keyG
  rw [IntKind.wrap_u64]
  omega
theorem keyE_ev {a : Nat} : (keyE (v a)).ev (sg t c d e N x r) = (keyG c.key (sg t c d e N x r a) : Nat) := by
  have e25 : sg t c d e N x r 25 = c.key := rfl
  simp only [keyE, v, l, SE.ev, e25]
  unfold keyG
  rw [Int.toNat_of_nonneg]
  rw [IntKind.wrap_u64]
  omega
theorem keyG_of (s : Nat) : keyG key s = See.keyOf key s := by
  unfold keyG See.keyOf
  rw [IntKind.wrap_u64, IntKind.wrap_u64, IntKind.wrap_u64]
  omega
theorem words_le (hc : COk c d e) : c.words ≤ 4096 ∧ c.words ≠ 0 := by
  have hn := hc.nums
  unfold Ch.words
  have : c.S * c.O ≤ 32 * 16 := Nat.mul_le_mul (by omega) (by omega)
  omega
theorem cpu_of (hcs : ∀ q ∈ csCpu, q.1.ev (sg t c d e N x r) = q.2) : cpuOk c t.cpu := by
  have h1 := hcs (.lt (v 1) (l 0), false) (by simp [csCpu])
  have h2 := hcs (.lt (v 1) (v 20), true) (by simp [csCpu])
  have e1 : sg t c d e N x r 1 = t.cpu := rfl
  have e2 : sg t c d e N x r 20 = c.C := rfl
  simp only [Cnd.ev, SE.ev, v, l, e1, e2, decide_eq_true_eq, decide_eq_false_iff_not] at h1 h2
  exact ⟨by omega, h2⟩
theorem link_of {a b : Nat} (hcs : ∀ q ∈ csLink (v a) (v b), q.1.ev (sg t c d e N x r) = q.2) : linkOk c (sg t c d e N x r a) (sg t c d e N x r b) := by
  have h1 := hcs (.lt (v a) (l 0), false) (by simp [csLink])
  have h2 := hcs (.lt (v a) (v 21), true) (by simp [csLink])
  have h3 := hcs (.lt (v b) (l 0), false) (by simp [csLink])
  have h4 := hcs (.lt (v b) (v 22), true) (by simp [csLink])
  have e1 : sg t c d e N x r 21 = c.S := rfl
  have e2 : sg t c d e N x r 22 = c.O := rfl
  simp only [Cnd.ev, SE.ev, v, l, e1, e2, decide_eq_true_eq, decide_eq_false_iff_not] at h1 h2 h3 h4
  exact ⟨⟨by omega, h2⟩, ⟨by omega, h4⟩⟩
theorem at_some {g : List Nat} {i : Nat} (h : i < g.length) : g[i]? = some (at_ g i) := by
  unfold at_
  rw [List.getD_eq_getElem?_getD, List.getElem?_eq_getElem h]
  rfl
theorem at_lt {g : List Nat} (hw : W64 g) (i : Nat) : at_ g i < 18446744073709551616 := by
  unfold at_
  rw [List.getD_eq_getElem?_getD]
  cases h : g[i]? with
  | none => simp
  | some x => exact hw x (List.mem_of_getElem? h)
end
theorem KnAll.app {P : Program} {gs : List (Nat × List Int)} {σ : Nat → Int} {ω : Nat → Nat → Nat → Obj} {a b : List Kn} (h1 : KnAll P gs σ ω a) (h2 : KnAll P gs σ ω b) : KnAll P gs σ ω (a ++ b) := fun fs hfs k hk => by
  rcases List.mem_append.1 hk with hk | hk
  · exact h1 fs hfs k hk
  · exact h2 fs hfs k hk
/-- a head's three numbers -/
def headL (x : Nat) : List Int := match headOf x with
  | some (s, o) => [1, s, o]
  | none => [0, 0, 0]
/-- what a link shows: two numbers -/
def is1 (r : Option Int) : Int := if r.isSome then 1 else 0
def val1 (r : Option Int) : Int := r.getD 0
/-! questions, answered -/
section
variable {σ : Nat → Int} {c : Ch} {i j : Int} {y n : DM} {x : Value} {s : Nat}
theorem ends_node {q : Cnd} (h : EndsM σ (.node q y n) x s) : (q.ev σ = true ∧ EndsM σ y x s) ∨ (q.ev σ = false ∧ EndsM σ n x s) := h
theorem ends_cpuQ (h1 : σ 1 = i) (h2 : σ 20 = c.C) (h : EndsM σ (cpuQ y n) x s) : (cpuOk c i ∧ EndsM σ y x s) ∨ (¬ cpuOk c i ∧ EndsM σ n x s) := by
  simp only [cpuQ, EndsM, Cnd.ev, SE.ev, v, l, h1, h2, decide_eq_true_eq, decide_eq_false_iff_not, and_false, or_false] at h
  unfold cpuOk
  rcases h with ⟨h3, h4⟩ | ⟨h3, ⟨h4, h5, h6⟩ | ⟨h4, h5⟩⟩
  · exact .inr ⟨by omega, h4⟩
  · exact .inl ⟨by omega, h6⟩
  · exact .inr ⟨by omega, h5⟩
theorem bad_cpuQ (hc : c.C ≤ 8) (h2 : σ 20 = c.C) (hy : ¬ BadM σ y) (hn : ¬ BadM σ n) : ¬ BadM σ (cpuQ y n) := by
  rintro (⟨_, h⟩ | ⟨_, ⟨h1, ⟨_, h⟩ | ⟨h3, h⟩⟩ | ⟨_, h⟩⟩)
  · exact hn h
  · exact hy h
  · simp only [Cnd.ev, SE.ev, v, l, h2, decide_eq_true_eq, decide_eq_false_iff_not] at h1 h3
    omega
  · exact hn h
theorem ends_isQ {a : Nat} (h : EndsM σ (isQ a y n) x s) : (σ a = 1 ∧ EndsM σ y x s) ∨ (σ a ≠ 1 ∧ EndsM σ n x s) := by
  simp only [isQ, EndsM, Cnd.ev, SE.ev, v, l, beq_iff_eq, beq_eq_false_iff_ne] at h
  exact h
theorem ends_okQ {a : Nat} (h : EndsM σ (okQ a y n) x s) : (σ a = 0 ∧ EndsM σ y x s) ∨ (σ a ≠ 0 ∧ EndsM σ n x s) := by
  simp only [okQ, EndsM, Cnd.ev, SE.ev, v, l, beq_iff_eq, beq_eq_false_iff_ne] at h
  exact h
theorem bad_node {q : Cnd} (hy : ¬ BadM σ y) (hn : ¬ BadM σ n) : ¬ BadM σ (.node q y n) := by
  rintro (⟨_, h⟩ | ⟨_, h⟩)
  · exact hy h
  · exact hn h
theorem ends_lt {a b : SE} (h : EndsM σ (.node (.lt a b) y n) x s) : (a.ev σ < b.ev σ ∧ EndsM σ y x s) ∨ (b.ev σ ≤ a.ev σ ∧ EndsM σ n x s) := by
  simp only [EndsM, Cnd.ev, decide_eq_true_eq, decide_eq_false_iff_not] at h
  rcases h with h | ⟨h1, h2⟩
  · exact .inl h
  · exact .inr ⟨by omega, h2⟩
theorem ends_eq {a b : SE} (h : EndsM σ (.node (.eq a b) y n) x s) : (a.ev σ = b.ev σ ∧ EndsM σ y x s) ∨ (a.ev σ ≠ b.ev σ ∧ EndsM σ n x s) := by
  simp only [EndsM, Cnd.ev, beq_iff_eq, beq_eq_false_iff_ne] at h
  exact h
theorem ends_linkQ {a b : Nat} (h1 : σ a = i) (h2 : σ b = j) (h3 : σ 21 = c.S) (h4 : σ 22 = c.O) (h : EndsM σ (linkQ (v a) (v b) y n) x s) : (linkOk c i j ∧ EndsM σ y x s) ∨ (¬ linkOk c i j ∧ EndsM σ n x s) := by
  simp only [linkQ, EndsM, Cnd.ev, SE.ev, v, l, h1, h2, h3, h4, decide_eq_true_eq, decide_eq_false_iff_not] at h
  unfold linkOk
  rcases h with ⟨h3, h4⟩ | ⟨h3, ⟨h4, ⟨h5, h6⟩ | ⟨h5, ⟨h6, h7⟩ | ⟨h6, h7⟩⟩⟩ | ⟨h4, h5⟩⟩
  · exact .inr ⟨by omega, h4⟩
  · exact .inr ⟨by omega, h6⟩
  · exact .inl ⟨by omega, h7⟩
  · exact .inr ⟨by omega, h7⟩
  · exact .inr ⟨by omega, h5⟩
theorem bad_linkQ {a b : SE} (hy : ¬ BadM σ y) (hn : ¬ BadM σ n) : ¬ BadM σ (linkQ a b y n) := bad_node hn (bad_node (bad_node hn (bad_node hy hn)) hn)
theorem bad_onT {pc : Int} {u : List (Nat × AV)} {q : Nat} : ¬ BadM σ (onT pc u q) := fun h => h
end
/-- what a step answers, and leaves -/
def StepRes (W : World) (m : List (Nat × Obj)) (b0 b1 N k : Nat) (t : TaskP) (g : List Nat) (e : Ending) (w' : World) : Prop :=
  ∃ q, q ≤ 1 ∧ e = .returned (.tuple #[t.v, .int .i64 0]) ∧ Own W (mB b0 b1 N (k + q) :: wB b1 g :: m) w'
/-- a task that runs, at a place -/
structure AtPc (t : TaskP) (pc : Int) : Prop where
  pc : t.pc = pc
  end_ : t.end_ = 0
  want : t.want = 0
end Go.Proofs.Ytigakendeghoaaa.Step

/-
  Structs in boxes of their own: a whole one stored, a whole one loaded, in one step. No condition.
-/
namespace Go.Proofs.Ytigakendeghoaaa
open Go.RowKit
section
variable {P : Program} {W w : World} {m : List (Nat × Obj)} {b : Nat} {old new : Array Value} {e t : TypeId}
theorem own_row (h : Own W ((b, .cells old e) :: m) w) (hl : old.size = new.size) : Own W ((b, .cells new e) :: m) (w.setRow b new) := by
  have hg := h.get (List.mem_cons_self)
  have hge := h.ge (List.mem_cons_self)
  have hot : ∀ c, c ≠ b → (w.setRow b new).heap[c]? = w.heap[c]? := fun c hc => setRow_other w b c new hc
  refine ⟨⟨h.below.os, h.below.tape, h.below.output, ?_, fun c hc => ?_⟩, fun p hm => ?_, h.nd⟩
  · simpa using h.below.size
  · rw [hot c (by omega)]
    exact h.below.block c hc
  · rcases List.mem_cons.1 hm with rfl | hm
    · exact ⟨hge, by rw [setRow_heap w b old new e (0, 0) hg]⟩
    · have hne : p.1 ≠ b := h.ne (b' := p.1) (o' := p.2) hm
      exact ⟨(h.at_ p (List.mem_cons_of_mem _ hm)).1, (hot p.1 hne).trans (h.at_ p (List.mem_cons_of_mem _ hm)).2⟩
theorem run_storeBox (h : Own W ((b, .cells old e) :: m) w) (hl : old.size = new.size) (h1 : ∀ u ∈ new.toList, u.oneCell' = true) (hs : Ex.sizeT P t = some new.size) :
    (Instr.storeAt t (.pointer (some ⟨b, 0, none⟩)) (.agg new)).run P w = .ok () (w.setRow b new) := by
  have hcur := h.get (List.mem_cons_self)
  have hst := run_storeCells_at P b 0 e new.toList 0 old w hcur (by simp; omega) h1
  simp only [Nat.add_zero, List.take_zero, List.nil_append, Nat.zero_add] at hst
  rw [List.drop_eq_nil_of_le (by simp; omega), List.append_nil, Array.toArray_toList] at hst
  simp [Instr.storeAt, Instr.sureAddr, storeVar, Ex.sizeT_run hs w, Value.cells, hst]
theorem wpList_storeBox {ops : Array Oper} {rest : List Oper} {o : Oper} {a : Act} {Q : Exit → Act → World → Prop} (hgd : o.guard = none) (p x : Operand)
    (ho : o.op = .store t p x) (hp : a.eval p = .pointer (some ⟨b, 0, none⟩)) (hx : a.eval x = .agg new) (hs : Ex.sizeT P t = some new.size)
    (hO : Own W ((b, .cells old e) :: m) w) (hl : old.size = new.size) (h1 : ∀ u ∈ new.toList, u.oneCell' = true)
    (h : ∀ w', Own W ((b, .cells new e) :: m) w' → wpList P ops Q rest (a.put o.dst undef) w') :
    wpList P ops Q (o :: rest) a w := by
  refine wpList_plain hgd fun K hK => ?_
  have hr := run_storeBox (P := P) (t := t) hO hl h1 hs
  unfold Oper.wp execOp
  simp only [ho, hp, hx, Sem.run_bind, Sem.run_pure, Result.andThen_ok, hr]
  exact hK _ _ (h _ (own_row hO hl))
theorem run_loadBox {fs : Array Field} (h : Own W ((b, .cells old e) :: m) w) (hu : P.underlying t = some (.struct fs)) (hs : Ex.sizeT P t = some old.size) :
    (Instr.loadAt t (.pointer (some ⟨b, 0, none⟩))).run P w = .ok (.agg old) w := by
  have hcur := h.get (List.mem_cons_self)
  have hrange : w.rangeAt b 0 old.toList := fun j z hz => by
    simp only [Array.getElem?_toList] at hz
    simp [World.cell?, hcur, hz]
  have := run_loadAt_mid (P := P) w b 0 t old.toList (.struct fs) hrange hu rfl (by rw [Ex.sizeT_info hs, Array.length_toList])
  simpa using this
theorem wpList_loadBox {fs : Array Field} {ops : Array Oper} {rest : List Oper} {o : Oper} {a : Act} {Q : Exit → Act → World → Prop} (hgd : o.guard = none) (p : Operand)
    (ho : o.op = .load t p) (hp : a.eval p = .pointer (some ⟨b, 0, none⟩)) (hu : P.underlying t = some (.struct fs))
    (hO : Own W ((b, .cells old e) :: m) w) (hs : Ex.sizeT P t = some old.size) (h : wpList P ops Q rest (a.put o.dst (.agg old)) w) :
    wpList P ops Q (o :: rest) a w := by
  refine wpList_plain hgd fun K hK => ?_
  have hr := run_loadBox (P := P) (t := t) hO hu hs
  unfold Oper.wp execOp
  simp only [ho, hp, Sem.run_bind, Sem.run_pure, Result.andThen_ok, hr]
  exact hK _ _ h
/-- at a step of a region that draws its order: '((refine step_storeBox (by rfl) _ _ (by rfl) (by rfl) (by rfl) ..); intro w' h')' -/
theorem step_storeBox {ops : Array Oper} {o : Oper} {a : Act} {K : Act → World → Prop} {Q : Exit → Act → World → Prop} {E : Prop} (hgd : o.guard = none) (p x : Operand)
    (ho : o.op = .store t p x) (hp : a.eval p = .pointer (some ⟨b, 0, none⟩)) (hx : a.eval x = .agg new)
    (hO : Own W ((b, .cells old e) :: m) w) (hs : Ex.sizeT P t = some new.size) (hl : old.size = new.size) (h1 : ∀ u ∈ new.toList, u.oneCell' = true)
    (h : ∀ w', Own W ((b, .cells new e) :: m) w' → K (a.put o.dst undef) w') :
    if Region.wanted o (yielded ops a.tmps) = true then Oper.wp P o a w K Q else E := by
  have hw : Region.wanted o (yielded ops a.tmps) = true := by simp [Region.wanted, hgd]
  rw [if_pos hw]
  have hr := run_storeBox (P := P) (t := t) hO hl h1 hs
  unfold Oper.wp execOp
  simp only [ho, hp, hx, Sem.run_bind, Sem.run_pure, Result.andThen_ok, hr]
  exact h _ (own_row hO hl)
theorem step_loadBox {fs : Array Field} {ops : Array Oper} {o : Oper} {a : Act} {K : Act → World → Prop} {Q : Exit → Act → World → Prop} {E : Prop} (hgd : o.guard = none) (p : Operand)
    (ho : o.op = .load t p) (hp : a.eval p = .pointer (some ⟨b, 0, none⟩)) (hu : P.underlying t = some (.struct fs))
    (hO : Own W ((b, .cells old e) :: m) w) (hs : Ex.sizeT P t = some old.size) (h : K (a.put o.dst (.agg old)) w) :
    if Region.wanted o (yielded ops a.tmps) = true then Oper.wp P o a w K Q else E := by
  have hw : Region.wanted o (yielded ops a.tmps) = true := by simp [Region.wanted, hgd]
  rw [if_pos hw]
  have hr := run_loadBox (P := P) (t := t) hO hu hs
  unfold Oper.wp execOp
  simp only [ho, hp, Sem.run_bind, Sem.run_pure, Result.andThen_ok, hr]
  exact h
end
end Go.Proofs.Ytigakendeghoaaa

/-
  Contract: wainscotlaw22.stocked. No condition.
-/
namespace Go.Proofs.Ytigakendeghoaaa.Fast
open Go Mem See Step
open Go.RowKit
open Apart (chV chB box6 ChAt)
open chartPlaces (Ok)
attribute [local go_sem ↓] Go.wp_at_zero Go.wp_at_succ
theorem ch_size : Ex.sizeT Try.prog 24 = some 6 := by kernel_rfl
/-- the words of a core of one processor and one slab: so many links are laid -/
def stL (n key objs i : Nat) : List Nat := List.replicate 12 0 ++ ((List.range objs).map fun j => if j < i then (freshL (max n 1) key).getD j 0 else 0)
/-- .. and the head, its turn, the counts -/
def stG (n key objs turn : Nat) : List Nat := (((stL n (See.keyOf key 0) objs n).set 0 (if n = 0 then 64 else 65)).set 1 turn).set 9 (packN objs objs true true)
theorem stL_len (n key objs i : Nat) : (stL n key objs i).length = 12 + objs := by
  simp only [stL, List.length_append, List.length_replicate, List.length_map, List.length_range]
theorem stL_zero (n key objs : Nat) : stL n key objs 0 = List.replicate (12 + objs) 0 := by
  unfold stL
  rw [← List.replicate_append_replicate]
  congr 1
  apply List.ext_getElem?
  intro j
  by_cases h : j < objs
  · simp [h]
  · rw [List.getElem?_eq_none (by simp; omega), List.getElem?_eq_none (by simp; omega)]
theorem stL_set {n key objs i : Nat} (hi : i < objs) : (stL n key objs i).set (12 + i) ((freshL (max n 1) key).getD i 0) = stL n key objs (i + 1) := by
  unfold stL
  rw [List.set_append, if_neg (by simp), List.length_replicate, Nat.add_sub_cancel_left]
  congr 1
  apply List.ext_getElem?
  intro j
  rw [List.getElem?_set]
  by_cases hij : i = j
  · subst hij
    simp [hi]
  · rw [if_neg hij]
    by_cases hj : j < objs
    · simp only [List.getElem?_map, List.getElem?_range hj, Option.map_some]
      by_cases h1 : j < i
      · rw [if_pos h1, if_pos (by omega)]
      · rw [if_neg h1, if_neg (by omega)]
    · rw [List.getElem?_eq_none (by simp; omega), List.getElem?_eq_none (by simp; omega)]
section
variable {W w : World} {m : List (Nat × Obj)} {n objs key turn : Nat}
theorem st_p {α : Type} (l c r x y : α) (q : List α) : (l :: x :: y :: c :: r :: q).Perm (x :: y :: l :: c :: r :: q) := by
  classical
  rw [List.perm_iff_count]
  intro a
  simp only [List.count_cons]
  omega
set_option maxRecDepth 100000 in
set_option maxHeartbeats 40000000 in
theorem stocked_spec (h : Own W m w) (hn : n ≤ objs) (h1 : 1 ≤ objs) (h2 : objs ≤ 16) (hk : key < 18446744073709551616) :
    Calls Try.prog 44 #[.int .i64 n, .int .i64 objs, .int .u64 key, .int .u64 turn] w fun e w' => ∃ b0 b1 k, k ≤ 100 ∧ e = .returned (.tuple #[.pointer (some ⟨b0, 0, none⟩), cV ⟨1, 1, objs, key⟩ 0 0]) ∧ Own W (mB b0 b1 (12 + objs) k :: wB b1 (stG n key objs turn) :: m) w' := by
  have hok : Ok (1 : Int) 1 objs 0 0 := by unfold chartPlaces.Ok; omega
  have hO1 := (h.new (.cells #[.int .i64 0, .int .i64 0, .int .i64 0, .int .i64 0, .int .i64 0, .int .u64 0] 24)).new (.cells #[.int .i64 1, .int .i64 1, .int .i64 objs, .int .i64 0, .int .i64 0, .int .u64 key] 24)
  obtain ⟨b, hb⟩ : ∃ b, w.heap.size = b := ⟨_, rfl⟩
  simp only [World.size_alloc] at hO1
  rw [hb] at hO1
  have hO1 : Own W (chB (b + 1) 1 1 objs 0 0 key :: chB b 0 0 0 0 0 0 :: m) _ := hO1
  obtain ⟨y0, y1, y2, y3, y4, y5⟩ := box6 hO1
  have H1 := Lib.hid hO1
  have HOK := Lib.hid hok
  have HK := Lib.hid hk
  obtain ⟨N, hN⟩ : ∃ N : Nat, 12 + objs = N := ⟨_, rfl⟩
  have hNi : 4 * (1 : Int) + 4 + 4 * 1 + 1 * (objs : Int) = (N : Int) := by omega
  have HNI := Lib.hid hNi
  have HNN := Lib.hid hN
  have hN1 : (1 : Int) ≤ (N : Int) := by omega
  have hno0 : ((N : Int) ≤ 1) = False ∨ True := .inr trivial
  clear h hO1 hok hk hNi hno0
  by_cases hn0 : n = 0
  · subst hn0
    go_enter Try.func44, Try.ntmps44
    go_wp2_with fail
    refine (Apart.words_ok (key := (key : Int)) HOK.out H1.out).mono ?_
    rintro r w2 ⟨rfl, h3⟩
    rw [HNI.out]
    clear y0 y1 y2 y3 y4 y5
    go_wp2_with fail
    refine (new_spec (N := N) h3 (by omega) (by omega)).mono ?_
    rintro r w3 ⟨b0, b1, rfl, h4⟩
    obtain ⟨y0, y1, y2, y3, y4, y5⟩ := box6 h4.skip.skip
    go_wp2_with fail
    refine (key_spec (c := ⟨1, 1, objs, key⟩) (d := 0) (e := 0) 0 (by omega) h4).mono ?_
    rintro r w4 ⟨rfl, h5⟩
    clear y0 y1 y2 y3 y4 y5 h3 h4
    obtain ⟨kk, hkk⟩ : ∃ kk, See.keyOf key 0 = kk := ⟨_, rfl⟩
    have hkk2 : kk < 18446744073709551616 := by rw [← hkk]; exact keyOf_lt _ _
    have HKK := Lib.hid hkk
    simp only [hkk]
    go_wp2_with fail
    refine (fresh_spec (n := 1) (key := kk) h5 (by omega) (by omega) hkk2).mono ?_
    rintro r w5 ⟨lb, rfl, h6⟩
    have h7 := h6.perm (st_p _ _ _ _ _ _)
    have hz : List.replicate N 0 = stL 0 kk objs 0 := by rw [← hN, stL_zero]
    rw [hz] at h7
    clear h5 h6 hkk
    go_wp2_with fail
    have H7 := Lib.hid h7
    clear h7
    go_loopw [15] (fun iv wr => iv = .int .i64 0 ∧ Own W (mB b0 b1 N 0 :: wB b1 (stL 0 kk objs 0) :: wB lb (freshL 1 kk) :: chB (b + 1) 1 1 objs 0 0 key :: chB b 0 0 0 0 0 0 :: m) wr) (fun iv _ => 0)
    case atStart => exact ⟨rfl, H7.out⟩
    case round =>
      clear H7
      obtain ⟨rfl, hr⟩ := hrel
      have HR := Lib.hid hr
      clear hr
      obtain ⟨y0, y1, y2, y3, y4, y5⟩ := box6 HR.out.skip.skip.skip
      have hNb : N ≤ 4096 := by omega
      have hNc : 13 ≤ N := by omega
      clear hN
      obtain ⟨gl, hgl⟩ : ∃ gl, stL 0 kk objs 0 = gl := ⟨_, rfl⟩
      have hlen : gl.length = N := by rw [← hgl, stL_len]; exact HNN.out
      have HLEN := Lib.hid hlen
      have HGL := Lib.hid hgl
      have HR2 := HR.out
      rw [hgl] at HR2
      have HR3 := Lib.hid HR2
      clear hgl hlen HR2
      go_wp2_with fail
      refine (head_ok 0 (-1) (by unfold headOk; omega) _).mono ?_
      rintro r w10 ⟨rfl, rfl⟩
      have hhw : headW 0 (-1) = 64 := rfl
      rw [hhw]
      go_wp2_with fail
      refine (pack_ok HR3.out objs objs (by omega) (by omega) true true (by simp [mayB]; omega)).mono ?_
      rintro r w11 ⟨rfl, h11⟩
      obtain ⟨pw, hpw⟩ : ∃ pw, packN objs objs true true = pw := ⟨_, rfl⟩
      have HPW := Lib.hid hpw
      rw [hpw]
      clear y0 y1 y2 y3 y4 y5 hpw hhw
      obtain ⟨y0, y1, y2, y3, y4, y5⟩ := box6 h11.skip.skip.skip
      go_wp2_with fail
      refine (Apart.head_ok (i := 0) HOK.out (by omega) h11).mono ?_
      rintro r w12 ⟨rfl, h12⟩
      clear y0 y1 y2 y3 y4 y5 h11
      obtain ⟨y0, y1, y2, y3, y4, y5⟩ := box6 h12.skip.skip.skip
      go_wp2_with fail
      refine (store_in (i := 0) (x := at_ gl 0) 64 h12 (at_some (by have := HLEN.out; omega)) HLEN.out (by omega) (by omega)).mono ?_
      rintro r w13 ⟨rfl, h13⟩
      clear y0 y1 y2 y3 y4 y5 h12
      obtain ⟨y0, y1, y2, y3, y4, y5⟩ := box6 h13.skip.skip.skip
      go_wp2_with fail
      refine (Apart.head_ok (i := 0) HOK.out (by omega) h13).mono ?_
      rintro r w14 ⟨rfl, h14⟩
      clear y0 y1 y2 y3 y4 y5 h13
      obtain ⟨y0, y1, y2, y3, y4, y5⟩ := box6 h14.skip.skip.skip
      go_wp2_with fail
      refine (store_in (i := 1) (x := at_ (gl.set 0 64) 1) turn h14 (at_some (by rw [List.length_set]; have := HLEN.out; omega)) (by rw [List.length_set]; exact HLEN.out) (by omega) (by omega)).mono ?_
      rintro r w15 ⟨rfl, h15⟩
      clear y0 y1 y2 y3 y4 y5 h14
      obtain ⟨y0, y1, y2, y3, y4, y5⟩ := box6 h15.skip.skip.skip
      go_wp2_with fail
      refine (Apart.first_ok (i := 0) HOK.out (by omega) h15).mono ?_
      rintro r w16 ⟨rfl, h16⟩
      clear y0 y1 y2 y3 y4 y5 h15
      obtain ⟨y0, y1, y2, y3, y4, y5⟩ := box6 h16.skip.skip.skip
      go_wp2_with fail
      refine (store_in (i := 9) (x := at_ ((gl.set 0 64).set 1 turn) 9) pw h16 (at_some (by rw [List.length_set, List.length_set]; have := HLEN.out; omega)) (by rw [List.length_set, List.length_set]; exact HLEN.out) (by omega) (by omega)).mono ?_
      rintro r w17 ⟨rfl, h17⟩
      clear y0 y1 y2 y3 y4 y5 h16
      obtain ⟨y0, y1, y2, y3, y4, y5⟩ := box6 h17.skip.skip.skip
      have H17 := Lib.hid h17
      clear h17
      obtain ⟨v0, v1, v2, v3, v4, v5⟩ := box6 H17.out.skip.skip.skip.skip
      have vf := fun i => H17.out.skip.skip.skip.skip.frozen List.mem_cons_self i
      have vf0 := vf 0
      have vf1 := vf 1
      have vf2 := vf 2
      have vf3 := vf 3
      have vf4 := vf 4
      have vf5 := vf 5
      have k1 : b ≠ b + 1 := by omega
      have k2 : b + 1 ≠ b := by omega
      clear vf
      go_wp2_with fail
      go_region
      have h18 := (((((((H17.out.perm (up4 _ _ _ _ _ _)).set 0 (.int .i64 1)).set 1 (.int .i64 1)).set 2 (.int .i64 objs)).set 3 (.int .i64 0)).set 4 (.int .i64 0)).set 5 (.int .u64 (key : Int))).drew
      have h18 : Own W (chB b 1 1 objs 0 0 key :: _) _ := h18
      obtain ⟨q0, q1, q2, q3, q4, q5⟩ := box6 h18
      have hg9 : stG 0 key objs turn = ((gl.set 0 64).set 1 turn).set 9 pw := by
        unfold stG
        rw [HKK.out, HGL.out, HPW.out, if_pos rfl]
      have hfin := h18.skip.sub ((((List.sublist_cons_self _ _).trans (List.sublist_cons_self _ _)).cons_cons _).cons_cons _)
      rw [← hg9] at hfin
      have HNN2 := HNN.out
      go_wp2_with fail
      exact bodyPost_ret (v := .tuple #[.pointer (some ⟨b0, 0, none⟩), .agg #[.int .i64 1, .int .i64 1, .int .i64 objs, .int .i64 0, .int .i64 0, .int .u64 (key : Int)]]) (by simp [results, Try.f44, go_sem, q0, q1, q2, q3, q4, q5]) rfl ⟨b0, b1, 0 + 1 + 1 + 1, by omega, rfl, by rw [HNN2]; exact hfin⟩
  · have hn1 : (1 : Int) ≤ (n : Int) := by omega
    have hne : ((n : Int) == 0) = false := by simpa using hn0
    have hmax : max n 1 = n := by omega
    go_enter Try.func44, Try.ntmps44
    go_wp2_with fail
    refine (Apart.words_ok (key := (key : Int)) HOK.out H1.out).mono ?_
    rintro r w2 ⟨rfl, h3⟩
    rw [HNI.out]
    clear y0 y1 y2 y3 y4 y5
    go_wp2_with fail
    refine (new_spec (N := N) h3 (by omega) (by omega)).mono ?_
    rintro r w3 ⟨b0, b1, rfl, h4⟩
    obtain ⟨y0, y1, y2, y3, y4, y5⟩ := box6 h4.skip.skip
    go_wp2_with fail
    refine (key_spec (c := ⟨1, 1, objs, key⟩) (d := 0) (e := 0) 0 (by omega) h4).mono ?_
    rintro r w4 ⟨rfl, h5⟩
    clear y0 y1 y2 y3 y4 y5 h3 h4
    obtain ⟨kk, hkk⟩ : ∃ kk, See.keyOf key 0 = kk := ⟨_, rfl⟩
    have hkk2 : kk < 18446744073709551616 := by rw [← hkk]; exact keyOf_lt _ _
    have HKK := Lib.hid hkk
    simp only [hkk]
    go_wp2_with fail
    refine (fresh_spec (n := n) (key := kk) h5 (by omega) (by omega) hkk2).mono ?_
    rintro r w5 ⟨lb, rfl, h6⟩
    have h7 := h6.perm (st_p _ _ _ _ _ _)
    have hz : List.replicate N 0 = stL n kk objs 0 := by rw [← hN, stL_zero]
    rw [hz] at h7
    clear h5 h6 hkk
    go_wp2_with fail
    have H7 := Lib.hid h7
    clear h7
    go_loopw [15] (fun iv wr => ∃ i : Nat, iv = .int .i64 i ∧ i ≤ n ∧ Own W (mB b0 b1 N i :: wB b1 (stL n kk objs i) :: wB lb (freshL n kk) :: chB (b + 1) 1 1 objs 0 0 key :: chB b 0 0 0 0 0 0 :: m) wr) (fun iv _ => n - (intOf iv).toNat)
    case atStart => exact ⟨0, rfl, by omega, H7.out⟩
    case round =>
      clear H7
      obtain ⟨i, rfl, hi, hr⟩ := hrel
      by_cases hlt : i < n
      · have hlti : (i : Int) < (n : Int) := by omega
        have hi0 : (0 : Int) ≤ (i : Int) := by omega
        obtain ⟨y0, y1, y2, y3, y4, y5⟩ := box6 hr.skip.skip.skip
        obtain ⟨x, hx⟩ : ∃ x, (freshL n kk)[i]? = some x := ⟨_, List.getElem?_eq_getElem (by simp [freshL]; omega)⟩
        obtain ⟨c0, -⟩ := cell_w hr.skip.skip hx
        have hx2 : (freshL (max n 1) kk).getD i 0 = x := by rw [hmax, List.getD_eq_getElem?_getD, hx]; rfl
        have hset := stL_set (n := n) (key := kk) (objs := objs) (i := i) (by omega)
        rw [hx2] at hset
        obtain ⟨old, hold⟩ : ∃ o, (stL n kk objs i)[12 + i]? = some o := ⟨_, List.getElem?_eq_getElem (by rw [stL_len]; omega)⟩
        have hpl : 4 * (1 : Int) + 4 + 4 * 1 + 0 * (objs : Int) + (i : Int) = ((12 + i : Nat) : Int) := by omega
        have HPL := Lib.hid hpl
        have HOLD := Lib.hid hold
        have HX := Lib.hid hx
        have HSET := Lib.hid hset
        have HR := Lib.hid hr
        clear hx hx2 hset hold hpl hr
        go_wp2_with fail
        go_region_held3 (fun w' => w'.cell? ⟨b + 1, 0, none⟩ = some (.int .i64 1) ∧ w'.cell? ⟨b + 1, 1, none⟩ = some (.int .i64 1) ∧ w'.cell? ⟨b + 1, 2, none⟩ = some (.int .i64 objs) ∧ w'.cell? ⟨b + 1, 3, none⟩ = some (.int .i64 0) ∧ w'.cell? ⟨b + 1, 4, none⟩ = some (.int .i64 0) ∧ w'.cell? ⟨b + 1, 5, none⟩ = some (.int .u64 (key : Int)) ∧ w'.cell? ⟨lb, i, none⟩ = some (.int .u64 (x : Int))) (first | (refine ⟨?_, ?_, ?_, ?_, ?_, ?_, ?_⟩ <;> assumption) | go_keep)
          (first | (go_at_call 20; refine (Apart.link_ok (i := 0) (k := (i : Int)) HOK.out (by omega) (by omega) HR.out.drew).mono ?_; rintro r w7 ⟨rfl, h8⟩; rw [HPL.out]; obtain ⟨y0, y1, y2, y3, y4, y5⟩ := box6 h8.skip.skip.skip; obtain ⟨c0, -⟩ := cell_w h8.skip.skip HX.out) |
            (go_at_call 49; refine (store_in x h8 HOLD.out (by rw [stL_len]; exact hN) (by omega) (by omega)).mono ?_; rintro r w8 ⟨rfl, h9⟩; obtain ⟨y0, y1, y2, y3, y4, y5⟩ := box6 h9.skip.skip.skip; obtain ⟨c0, -⟩ := cell_w h9.skip.skip HX.out))
        rw [HSET.out] at h9
        go_wp2_with fail
        exact ⟨⟨i + 1, by go_num, by omega, h9⟩, by simp [intOf]; omega⟩
      · obtain rfl : i = n := by omega
        have hlti : ¬ (i : Int) < (i : Int) := by omega
        have HR := Lib.hid hr
        clear hr
        obtain ⟨y0, y1, y2, y3, y4, y5⟩ := box6 HR.out.skip.skip.skip
        have hNb : N ≤ 4096 := by omega
        have hNc : 13 ≤ N := by omega
        clear hN
        obtain ⟨gl, hgl⟩ : ∃ gl, stL i kk objs i = gl := ⟨_, rfl⟩
        have hlen : gl.length = N := by rw [← hgl, stL_len]; exact HNN.out
        have HLEN := Lib.hid hlen
        have HGL := Lib.hid hgl
        have HR2 := HR.out
        rw [hgl] at HR2
        have HR3 := Lib.hid HR2
        clear hgl hlen HR2
        go_wp2_with fail
        refine (head_ok 0 0 (by unfold headOk; omega) _).mono ?_
        rintro r w10 ⟨rfl, rfl⟩
        have hhw : headW 0 0 = 65 := rfl
        rw [hhw]
        go_wp2_with fail
        refine (pack_ok HR3.out objs objs (by omega) (by omega) true true (by simp [mayB]; omega)).mono ?_
        rintro r w11 ⟨rfl, h11⟩
        obtain ⟨pw, hpw⟩ : ∃ pw, packN objs objs true true = pw := ⟨_, rfl⟩
        have HPW := Lib.hid hpw
        rw [hpw]
        clear y0 y1 y2 y3 y4 y5 hpw hhw
        obtain ⟨y0, y1, y2, y3, y4, y5⟩ := box6 h11.skip.skip.skip
        go_wp2_with fail
        refine (Apart.head_ok (i := 0) HOK.out (by omega) h11).mono ?_
        rintro r w12 ⟨rfl, h12⟩
        clear y0 y1 y2 y3 y4 y5 h11
        obtain ⟨y0, y1, y2, y3, y4, y5⟩ := box6 h12.skip.skip.skip
        go_wp2_with fail
        refine (store_in (i := 0) (x := at_ gl 0) 65 h12 (at_some (by have := HLEN.out; omega)) HLEN.out (by omega) (by omega)).mono ?_
        rintro r w13 ⟨rfl, h13⟩
        clear y0 y1 y2 y3 y4 y5 h12
        obtain ⟨y0, y1, y2, y3, y4, y5⟩ := box6 h13.skip.skip.skip
        go_wp2_with fail
        refine (Apart.head_ok (i := 0) HOK.out (by omega) h13).mono ?_
        rintro r w14 ⟨rfl, h14⟩
        clear y0 y1 y2 y3 y4 y5 h13
        obtain ⟨y0, y1, y2, y3, y4, y5⟩ := box6 h14.skip.skip.skip
        go_wp2_with fail
        refine (store_in (i := 1) (x := at_ (gl.set 0 65) 1) turn h14 (at_some (by rw [List.length_set]; have := HLEN.out; omega)) (by rw [List.length_set]; exact HLEN.out) (by omega) (by omega)).mono ?_
        rintro r w15 ⟨rfl, h15⟩
        clear y0 y1 y2 y3 y4 y5 h14
        obtain ⟨y0, y1, y2, y3, y4, y5⟩ := box6 h15.skip.skip.skip
        go_wp2_with fail
        refine (Apart.first_ok (i := 0) HOK.out (by omega) h15).mono ?_
        rintro r w16 ⟨rfl, h16⟩
        clear y0 y1 y2 y3 y4 y5 h15
        obtain ⟨y0, y1, y2, y3, y4, y5⟩ := box6 h16.skip.skip.skip
        go_wp2_with fail
        refine (store_in (i := 9) (x := at_ ((gl.set 0 65).set 1 turn) 9) pw h16 (at_some (by rw [List.length_set, List.length_set]; have := HLEN.out; omega)) (by rw [List.length_set, List.length_set]; exact HLEN.out) (by omega) (by omega)).mono ?_
        rintro r w17 ⟨rfl, h17⟩
        clear y0 y1 y2 y3 y4 y5 h16
        obtain ⟨y0, y1, y2, y3, y4, y5⟩ := box6 h17.skip.skip.skip
        have H17 := Lib.hid h17
        clear h17
        obtain ⟨v0, v1, v2, v3, v4, v5⟩ := box6 H17.out.skip.skip.skip.skip
        have vf := fun i => H17.out.skip.skip.skip.skip.frozen List.mem_cons_self i
        have vf0 := vf 0
        have vf1 := vf 1
        have vf2 := vf 2
        have vf3 := vf 3
        have vf4 := vf 4
        have vf5 := vf 5
        have k1 : b ≠ b + 1 := by omega
        have k2 : b + 1 ≠ b := by omega
        clear vf
        go_wp2_with fail
        go_region
        have h18 := (((((((H17.out.perm (up4 _ _ _ _ _ _)).set 0 (.int .i64 1)).set 1 (.int .i64 1)).set 2 (.int .i64 objs)).set 3 (.int .i64 0)).set 4 (.int .i64 0)).set 5 (.int .u64 (key : Int))).drew
        have h18 : Own W (chB b 1 1 objs 0 0 key :: _) _ := h18
        obtain ⟨q0, q1, q2, q3, q4, q5⟩ := box6 h18
        have hg9 : stG i key objs turn = ((gl.set 0 65).set 1 turn).set 9 pw := by
          unfold stG
          rw [HKK.out, HGL.out, HPW.out, if_neg hn0]
        have hfin := h18.skip.sub ((((List.sublist_cons_self _ _).trans (List.sublist_cons_self _ _)).cons_cons _).cons_cons _)
        rw [← hg9] at hfin
        have HNN2 := HNN.out
        go_wp2_with fail
        exact bodyPost_ret (v := .tuple #[.pointer (some ⟨b0, 0, none⟩), .agg #[.int .i64 1, .int .i64 1, .int .i64 objs, .int .i64 0, .int .i64 0, .int .u64 (key : Int)]]) (by simp [results, Try.f44, go_sem, q0, q1, q2, q3, q4, q5]) rfl ⟨b0, b1, i + 1 + 1 + 1, by omega, rfl, by rw [HNN2]; exact hfin⟩
end
end Go.Proofs.Ytigakendeghoaaa.Fast
