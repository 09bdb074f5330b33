import Derived.Test.YtcbljokbechppaaGreatDoorBk10
/-
  chart.See as a known call of the runner; of its lists the lengths alone are known. No condition.
-/
namespace Go.Proofs.YtcbljokbechppaaGreatDoor.Ex
open Go Mem See
open Go.RowKit
section
def slotL : Nat → Nat → List AV
  | 0, _ => []
  | n + 1, b => .sym .i64 (.var b) :: .osl (.var (b + 1)) :: .sym .u64 (.var (b + 2)) :: .osl (.var (b + 3)) :: slotL n (b + 4)
def slabL : Nat → Nat → List AV
  | 0, _ => []
  | n + 1, b => .sym .i64 (.var b) :: .sym .i64 (.var (b + 1)) :: .bsym (.eq (.var (b + 2)) (.lit 0)) false :: .bsym (.eq (.var (b + 3)) (.lit 0)) false :: .osl (.var (b + 4)) :: slabL n (b + 5)
/-- numbers from one on: of each slot slab, how many in the list, turn, how many parts; how many on the shelf; locked; of each slab inuse, objects, frozen, live, how many in its list -/
def kcSeeL (nW qW : Nat) (ch : AV) (C S b : Nat) : Kc := { f := 17, args := [.dsl nW (.len (.lvar qW)) 1, ch], pre := [(nW, .recs (.lvar qW) [.int .u64] 22)], news := [.cells (slotL C b) 56, .cells (slabL S (b + 4 * C + 2)) 54], res := .tup [.agg [.sl rel 0 C 4 .any, .osl (.var (b + 4 * C)), .bsym (.eq (.var (b + 4 * C + 1)) (.lit 0)) false, .sl (rel + 1) 0 S 5 .any], .int .i64 0] }
def SlotValL (σ : Nat → Int) : List SlotP → Nat → Nat → Prop
  | [], 0, _ => True
  | s :: r, n + 1, b => (σ b = s.slab ∧ σ (b + 1) = s.list.length ∧ σ (b + 2) = s.turn ∧ σ (b + 3) = s.parts.length) ∧ SlotValL σ r n (b + 4)
  | _, _, _ => False
def SlabValL (σ : Nat → Int) : List SlabP → Nat → Nat → Prop
  | [], 0, _ => True
  | s :: r, n + 1, b => (σ b = s.counts.inuse ∧ σ (b + 1) = s.counts.objects ∧ (s.counts.frozen = !(σ (b + 2) == 0)) ∧ (s.counts.live = !(σ (b + 3) == 0)) ∧ σ (b + 4) = s.first.length) ∧ SlabValL σ r n (b + 5)
  | _, _, _ => False
def SeeValL (σ : Nat → Int) (K : CoreP) (C S b : Nat) : Prop :=
  SlotValL σ K.slots C b ∧ (σ (b + 4 * C) = K.shelf.length ∧ K.locked = !(σ (b + 4 * C + 1) == 0)) ∧ SlabValL σ K.slabs S (b + 4 * C + 2) ∧ 0 < C ∧ 0 < S
variable [Nums]
theorem osl_own {v : Value} {L : List Int} {bs : List (Nat × Obj)} {i : Nat} (h : IntsOwn true v L bs) (hi : Nums.σ i = L.length) (ρ : Ren) : VR ρ (.osl (.var i)) v := by
  obtain ⟨A, c, rfl, h1, h2⟩ := SlO.slice h
  unfold VR
  exact ⟨A, _, c, rfl, h1, h2, hi⟩
omit [Nums] in
theorem slotL_len {σ : Nat → Int} : ∀ {L : List SlotP} {n b : Nat}, SlotValL σ L n b → L.length = n
  | [], 0, _, _ => rfl
  | [], _ + 1, _, h => h.elim
  | _ :: _, 0, _, h => h.elim
  | s :: L, n + 1, b, h => by simp [slotL_len h.2]
omit [Nums] in
theorem slabL_len {σ : Nat → Int} : ∀ {L : List SlabP} {n b : Nat}, SlabValL σ L n b → L.length = n
  | [], 0, _, _ => rfl
  | [], _ + 1, _, h => h.elim
  | _ :: _, 0, _, h => h.elim
  | s :: L, n + 1, b, h => by simp [slabL_len h.2]
theorem slotsL_own {ρ : Ren} : ∀ {Ls : List SlotN} {n b : Nat}, SlotsOk Ls → SlotValL Nums.σ (Ls.map (·.x)) n b → VRs ρ (slotL n b) (slotCells Ls) ∧ allOne (slotL n b) = true
  | [], 0, _, _, _ => ⟨VRs.nil, rfl⟩
  | [], _ + 1, _, _, h => h.elim
  | _ :: _, 0, _, _, h => h.elim
  | s :: Ls, n + 1, b, ho, h => by
    obtain ⟨⟨h1, h2, h3, h4⟩, h5⟩ := h
    obtain ⟨o1, o2⟩ := ho s List.mem_cons_self
    obtain ⟨v3, p3⟩ := slotsL_own (ρ := ρ) (fun x hx => ho x (List.mem_cons_of_mem _ hx)) h5
    refine ⟨?_, allOne_cons rfl (allOne_cons rfl (allOne_cons rfl (allOne_cons rfl p3)))⟩
    have : slotCells (s :: Ls) = .int .i64 s.x.slab :: s.lv :: .int .u64 s.x.turn :: s.pv :: slotCells Ls := by simp [slotCells, SlotN.cells]
    rw [this]
    unfold slotL
    refine VRs.cons ?_ (VRs.cons (osl_own o1 h2 ρ) (VRs.cons ?_ (VRs.cons (osl_own o2 h4 ρ) v3)))
    · unfold VR; simp only [SE.ev, h1]
    · unfold VR; simp only [SE.ev, h3]
theorem slabsL_own {ρ : Ren} : ∀ {Ls : List SlabN} {n b : Nat}, SlabsOk Ls → SlabValL Nums.σ (Ls.map (·.x)) n b → VRs ρ (slabL n b) (slabCells Ls) ∧ allOne (slabL n b) = true
  | [], 0, _, _, _ => ⟨VRs.nil, rfl⟩
  | [], _ + 1, _, _, h => h.elim
  | _ :: _, 0, _, _, h => h.elim
  | s :: Ls, n + 1, b, ho, h => by
    obtain ⟨⟨h2, h3, h4, h5, h6⟩, h7⟩ := h
    obtain ⟨v3, p3⟩ := slabsL_own (ρ := ρ) (fun x hx => ho x (List.mem_cons_of_mem _ hx)) h7
    refine ⟨?_, allOne_cons rfl (allOne_cons rfl (allOne_cons rfl (allOne_cons rfl (allOne_cons rfl p3))))⟩
    have : slabCells (s :: Ls) = .int .i64 s.x.counts.inuse :: .int .i64 s.x.counts.objects :: .bool s.x.counts.frozen :: .bool s.x.counts.live :: s.v :: slabCells Ls := by simp [slabCells, SlabN.cells]
    rw [this]
    unfold slabL
    refine VRs.cons ?_ (VRs.cons ?_ (VRs.cons ?_ (VRs.cons ?_ (VRs.cons (osl_own (ho s List.mem_cons_self) h6 ρ) v3))))
    · unfold VR; simp only [SE.ev, h2]
    · unfold VR; simp only [SE.ev, h3]
    · unfold VR; simp only [Cnd.ev, SE.ev, h4]; cases (Nums.σ (b + 2) == 0) <;> rfl
    · unfold VR; simp only [Cnd.ev, SE.ev, h5]; cases (Nums.σ (b + 3) == 0) <;> rfl
variable {c : Ch} {g : List Nat} {K : CoreP} {C S b qW nW : Nat}
theorem kc_seeL {ch : AV} {d e : Int} (hnW : nW < rel) (hsh : ch.shut = true) (hch : valOf Nums.σ ch = cV c d e) (hc : COk c d e) (hgw : W64 g) (hgl : g.length = c.words) (hgv : LsVal Nums.σ qW (g.map fun (x : Nat) => (x : Int)))
    (hK : seeP c g = some K) (hv : SeeValL Nums.σ K C S b) : KcOk Tryz.prog (kcSeeL nW qW ch C S b) := by
  refine kc_own fn_see (by intro p hp; cases hp) (by intro p hp; simp only [kcSeeL, List.mem_cons, List.not_mem_nil, or_false] at hp; subst hp; exact hnW) fun _ ρ W w m args' bs hF ha hO => ?_
  obtain ⟨bw, ow, sw, r, rfl, pw, tw, rfl⟩ := hF
  obtain ⟨y, y2, hy, hp, hch2⟩ := VRs.two ha
  unfold VR at hp
  obtain ⟨bw', zw, len, cap, pw', rfl, hlc, hcm, hz, hlen⟩ := hp
  rw [pw] at pw'
  cases pw'
  have hch3 := VR.shut hch2 hsh
  rw [hch] at hch3
  subst hch3
  obtain ⟨cur, hcur, hsz, hle, hat⟩ := tw
  simp only [Option.some.injEq] at hcur
  subst hcur
  simp only [SE.ev, SE.evN, hgv.1, List.length_map] at hlen hle hat
  have hlen : len = g.length := by omega
  subst hlen
  have hargs2 : args' = #[.slice (some ⟨bw, 0, none⟩) g.length cap, cV c d e] := by
    apply Array.ext'
    rw [hy]
  subst hargs2
  have hrd : Rd W ((bw, .cells cur 22) :: m) bw 0 g := fun ws hws j x hj => by
    have hjl := (List.getElem?_eq_some_iff.1 hj).1
    rw [hws.cell List.mem_cons_self]
    have := hat j 0 (.int .u64) hjl rfl
    simp only [List.length_cons, List.length_nil, Nat.zero_add, Nat.mul_one, Nat.add_zero, SE.evA] at this
    rw [Nat.zero_add, this, hgv.2 j (x : Int) (by simp [hj])]
    rfl
  refine (see_spec (W := W) (m := (bw, .cells cur 22) :: m) hO hc ⟨hrd, rfl, hgl, hgw, hlc, hcm⟩).mono ?_
  rintro e' w' hpost
  rw [hK] at hpost
  obtain ⟨v, bs, rfl, hCo, hO2⟩ := hpost
  obtain ⟨Ls, sv, b0, hv0, b1, Ll, lv, b2, rfl, hLs, hso, hsv, hsh1, hLl, hlo, hlv, rfl⟩ := hCo.out
  obtain ⟨v1, ⟨v3, v4⟩, v5, v6, v7⟩ := hv
  rw [← hLs] at v1
  rw [← hLl] at v5
  have n1 : Ls.length = C := by have := slotL_len v1; rwa [List.length_map] at this
  have n2 : Ll.length = S := by have := slabL_len v5; rwa [List.length_map] at this
  obtain ⟨dd0, rfl, r0⟩ := row_own hsv (by omega)
  obtain ⟨dd2, rfl, r2⟩ := row_own hlv (by omega)
  refine ⟨_, [dd0, dd2], [(bw, .cells cur 22)], rfl, ?_, rfl, rfl, fun ρ' hk hd => ?_⟩
  · refine hO2.sub ?_
    exact ((List.Sublist.refl [dd0]).append ((List.nil_sublist _).append ((List.nil_sublist _).append ((List.Sublist.refl [dd2]).append (List.nil_sublist _))))).append (List.Sublist.refl _)
  · have hN : NamedAt ρ' rel [dd0, dd2] := hd
    have a0 : ρ' rel = some (dd0.1, objSize dd0.2) := hN 0 _ rfl
    have a2 : ρ' (rel + 1) = some (dd2.1, objSize dd2.2) := hN 1 _ rfl
    obtain ⟨x1, x3⟩ := slotsL_own (ρ := ρ') hso v1
    obtain ⟨x6, x8⟩ := slabsL_own (ρ := ρ') hlo v5
    obtain ⟨y1, y2⟩ := r0 ρ' rel _ a0 x1 x3
    obtain ⟨y3, y4⟩ := r2 ρ' (rel + 1) _ a2 x6 x8
    rw [n1] at y1
    rw [n2] at y3
    refine ⟨?_, fun i t d hi hd2 => ?_, fun p hp => by cases hp⟩
    · show VR ρ' (.tup [.agg [.sl rel 0 C 4 .any, .osl (.var (b + 4 * C)), .bsym (.eq (.var (b + 4 * C + 1)) (.lit 0)) false, .sl (rel + 1) 0 S 5 .any], .int .i64 0]) _
      unfold VR
      refine ⟨_, rfl, VRs.cons ?_ (VRs.cons (by unfold VR; rfl) VRs.nil)⟩
      unfold VR
      refine ⟨_, rfl, VRs.cons y1 (VRs.cons (osl_own hsh1 v3 ρ') (VRs.cons ?_ (VRs.cons y3 VRs.nil)))⟩
      unfold VR
      simp only [Cnd.ev, SE.ev, v4]
      cases (Nums.σ (b + 4 * C + 1) == 0) <;> rfl
    · match i with
      | 0 =>
        simp only [kcSeeL, List.getElem?_cons_zero, Option.some.injEq] at hi hd2
        subst hi; subst hd2
        exact y2
      | 1 =>
        simp only [kcSeeL, List.getElem?_cons_succ, List.getElem?_cons_zero, Option.some.injEq] at hi hd2
        subst hi; subst hd2
        exact y4
      | i + 2 => simp [kcSeeL] at hi
end
end Go.Proofs.YtcbljokbechppaaGreatDoor.Ex
