/-
  Texts of this claim, joined. No condition.
-/
import Derived.Test.YtmfemophafncnaaFt8
import Derived.Test.YtmfemophafncnaaFt7
import Derived.Test.YtmfemophafncnaaFt6
import Derived.Test.YtmfemophafncnaaFt5
/-
  chart.See as a known call of the runner; of its lists the lengths alone are known. No condition.
-/
namespace Go.Proofs.Ytmfemophafncnaa.Ex
open Go Mem See
open Go.RowKit
section
def slotL : Nat → Nat → List AV
  | 0, _ => []
  | n + 1, b => .sym .i64 (.var b) :: .osl (.var (b + 1)) :: .sym .u64 (.var (b + 2)) :: .osl (.var (b + 3)) :: slotL n (b + 4)
def slabL : Nat → Nat → List AV
  | 0, _ => []
  | n + 1, b => .sym .i64 (.var b) :: .sym .i64 (.var (b + 1)) :: .bsym (.eq (.var (b + 2)) (.lit 0)) false :: .bsym (.eq (.var (b + 3)) (.lit 0)) false :: .osl (.var (b + 4)) :: slabL n (b + 5)
/-- numbers from one on: of each slot slab, how many in the list, turn, how many parts; how many on the shelf; locked; of each slab inuse, objects, frozen, live, how many in its list -/
def kcSeeL (nW qW : Nat) (ch : AV) (C S b : Nat) : Kc := { f := 5, args := [.dsl nW (.len (.lvar qW)) 1, ch], pre := [(nW, .recs (.lvar qW) [.int .u64] 26)], news := [.cells (slotL C b) 68, .cells (slabL S (b + 4 * C + 2)) 50], res := .tup [.agg [.sl rel 0 C 4 .any, .osl (.var (b + 4 * C)), .bsym (.eq (.var (b + 4 * C + 1)) (.lit 0)) false, .sl (rel + 1) 0 S 5 .any], .int .i64 0] }
def SlotValL (σ : Nat → Int) : List SlotP → Nat → Nat → Prop
  | [], 0, _ => True
  | s :: r, n + 1, b => (σ b = s.slab ∧ σ (b + 1) = s.list.length ∧ σ (b + 2) = s.turn ∧ σ (b + 3) = s.parts.length) ∧ SlotValL σ r n (b + 4)
  | _, _, _ => False
def SlabValL (σ : Nat → Int) : List SlabP → Nat → Nat → Prop
  | [], 0, _ => True
  | s :: r, n + 1, b => (σ b = s.counts.inuse ∧ σ (b + 1) = s.counts.objects ∧ (s.counts.frozen = !(σ (b + 2) == 0)) ∧ (s.counts.live = !(σ (b + 3) == 0)) ∧ σ (b + 4) = s.first.length) ∧ SlabValL σ r n (b + 5)
  | _, _, _ => False
def SeeValL (σ : Nat → Int) (K : CoreP) (C S b : Nat) : Prop :=
  SlotValL σ K.slots C b ∧ (σ (b + 4 * C) = K.shelf.length ∧ K.locked = !(σ (b + 4 * C + 1) == 0)) ∧ SlabValL σ K.slabs S (b + 4 * C + 2) ∧ 0 < C ∧ 0 < S
variable [Nums]
theorem osl_own {v : Value} {L : List Int} {bs : List (Nat × Obj)} {i : Nat} (h : IntsOwn true v L bs) (hi : Nums.σ i = L.length) (ρ : Ren) : VR ρ (.osl (.var i)) v := by
  obtain ⟨A, c, rfl, h1, h2⟩ := SlO.slice h
  unfold VR
  exact ⟨A, _, c, rfl, h1, h2, hi⟩
omit [Nums] in
theorem slotL_len {σ : Nat → Int} : ∀ {L : List SlotP} {n b : Nat}, SlotValL σ L n b → L.length = n
  | [], 0, _, _ => rfl
  | [], _ + 1, _, h => h.elim
  | _ :: _, 0, _, h => h.elim
  | s :: L, n + 1, b, h => by simp [slotL_len h.2]
omit [Nums] in
theorem slabL_len {σ : Nat → Int} : ∀ {L : List SlabP} {n b : Nat}, SlabValL σ L n b → L.length = n
  | [], 0, _, _ => rfl
  | [], _ + 1, _, h => h.elim
  | _ :: _, 0, _, h => h.elim
  | s :: L, n + 1, b, h => by simp [slabL_len h.2]
theorem slotsL_own {ρ : Ren} : ∀ {Ls : List SlotN} {n b : Nat}, SlotsOk Ls → SlotValL Nums.σ (Ls.map (·.x)) n b → VRs ρ (slotL n b) (slotCells Ls) ∧ allOne (slotL n b) = true
  | [], 0, _, _, _ => ⟨VRs.nil, rfl⟩
  | [], _ + 1, _, _, h => h.elim
  | _ :: _, 0, _, _, h => h.elim
  | s :: Ls, n + 1, b, ho, h => by
    obtain ⟨⟨h1, h2, h3, h4⟩, h5⟩ := h
    obtain ⟨o1, o2⟩ := ho s List.mem_cons_self
    obtain ⟨v3, p3⟩ := slotsL_own (ρ := ρ) (fun x hx => ho x (List.mem_cons_of_mem _ hx)) h5
    refine ⟨?_, allOne_cons rfl (allOne_cons rfl (allOne_cons rfl (allOne_cons rfl p3)))⟩
    have : slotCells (s :: Ls) = .int .i64 s.x.slab :: s.lv :: .int .u64 s.x.turn :: s.pv :: slotCells Ls := by simp [slotCells, SlotN.cells]
    rw [this]
    unfold slotL
    refine VRs.cons ?_ (VRs.cons (osl_own o1 h2 ρ) (VRs.cons ?_ (VRs.cons (osl_own o2 h4 ρ) v3)))
    · unfold VR; simp only [SE.ev, h1]
    · unfold VR; simp only [SE.ev, h3]
theorem slabsL_own {ρ : Ren} : ∀ {Ls : List SlabN} {n b : Nat}, SlabsOk Ls → SlabValL Nums.σ (Ls.map (·.x)) n b → VRs ρ (slabL n b) (slabCells Ls) ∧ allOne (slabL n b) = true
  | [], 0, _, _, _ => ⟨VRs.nil, rfl⟩
  | [], _ + 1, _, _, h => h.elim
  | _ :: _, 0, _, _, h => h.elim
  | s :: Ls, n + 1, b, ho, h => by
    obtain ⟨⟨h2, h3, h4, h5, h6⟩, h7⟩ := h
    obtain ⟨v3, p3⟩ := slabsL_own (ρ := ρ) (fun x hx => ho x (List.mem_cons_of_mem _ hx)) h7
    refine ⟨?_, allOne_cons rfl (allOne_cons rfl (allOne_cons rfl (allOne_cons rfl (allOne_cons rfl p3))))⟩
    have : slabCells (s :: Ls) = .int .i64 s.x.counts.inuse :: .int .i64 s.x.counts.objects :: .bool s.x.counts.frozen :: .bool s.x.counts.live :: s.v :: slabCells Ls := by simp [slabCells, SlabN.cells]
    rw [this]
    unfold slabL
    refine VRs.cons ?_ (VRs.cons ?_ (VRs.cons ?_ (VRs.cons ?_ (VRs.cons (osl_own (ho s List.mem_cons_self) h6 ρ) v3))))
    · unfold VR; simp only [SE.ev, h2]
    · unfold VR; simp only [SE.ev, h3]
    · unfold VR; simp only [Cnd.ev, SE.ev, h4]; cases (Nums.σ (b + 2) == 0) <;> rfl
    · unfold VR; simp only [Cnd.ev, SE.ev, h5]; cases (Nums.σ (b + 3) == 0) <;> rfl
variable {c : Ch} {g : List Nat} {K : CoreP} {C S b qW nW : Nat}
theorem kc_seeL {ch : AV} {d e : Int} (hnW : nW < rel) (hsh : ch.shut = true) (hch : valOf Nums.σ ch = cV c d e) (hc : COk c d e) (hgw : W64 g) (hgl : g.length = c.words) (hgv : LsVal Nums.σ qW (g.map fun (x : Nat) => (x : Int)))
    (hK : seeP c g = some K) (hv : SeeValL Nums.σ K C S b) : KcOk Try.prog (kcSeeL nW qW ch C S b) := by
  refine kc_own fn_see (by intro p hp; cases hp) (by intro p hp; simp only [kcSeeL, List.mem_cons, List.not_mem_nil, or_false] at hp; subst hp; exact hnW) fun _ ρ W w m args' bs hF ha hO => ?_
  obtain ⟨bw, ow, sw, r, rfl, pw, tw, rfl⟩ := hF
  obtain ⟨y, y2, hy, hp, hch2⟩ := VRs.two ha
  unfold VR at hp
  obtain ⟨bw', zw, len, cap, pw', rfl, hlc, hcm, hz, hlen⟩ := hp
  rw [pw] at pw'
  cases pw'
  have hch3 := VR.shut hch2 hsh
  rw [hch] at hch3
  subst hch3
  obtain ⟨cur, hcur, hsz, hle, hat⟩ := tw
  simp only [Option.some.injEq] at hcur
  subst hcur
  simp only [SE.ev, SE.evN, hgv.1, List.length_map] at hlen hle hat
  have hlen : len = g.length := by omega
  subst hlen
  have hargs2 : args' = #[.slice (some ⟨bw, 0, none⟩) g.length cap, cV c d e] := by
    apply Array.ext'
    rw [hy]
  subst hargs2
  have hrd : Rd W ((bw, .cells cur 26) :: m) bw 0 g := fun ws hws j x hj => by
    have hjl := (List.getElem?_eq_some_iff.1 hj).1
    rw [hws.cell List.mem_cons_self]
    have := hat j 0 (.int .u64) hjl rfl
    simp only [List.length_cons, List.length_nil, Nat.zero_add, Nat.mul_one, Nat.add_zero, SE.evA] at this
    rw [Nat.zero_add, this, hgv.2 j (x : Int) (by simp [hj])]
    rfl
  refine (see_spec (W := W) (m := (bw, .cells cur 26) :: m) hO hc ⟨hrd, rfl, hgl, hgw, hlc, hcm⟩).mono ?_
  rintro e' w' hpost
  rw [hK] at hpost
  obtain ⟨v, bs, rfl, hCo, hO2⟩ := hpost
  obtain ⟨Ls, sv, b0, hv0, b1, Ll, lv, b2, rfl, hLs, hso, hsv, hsh1, hLl, hlo, hlv, rfl⟩ := hCo.out
  obtain ⟨v1, ⟨v3, v4⟩, v5, v6, v7⟩ := hv
  rw [← hLs] at v1
  rw [← hLl] at v5
  have n1 : Ls.length = C := by have := slotL_len v1; rwa [List.length_map] at this
  have n2 : Ll.length = S := by have := slabL_len v5; rwa [List.length_map] at this
  obtain ⟨dd0, rfl, r0⟩ := row_own hsv (by omega)
  obtain ⟨dd2, rfl, r2⟩ := row_own hlv (by omega)
  refine ⟨_, [dd0, dd2], [(bw, .cells cur 26)], rfl, ?_, rfl, rfl, fun ρ' hk hd => ?_⟩
  · refine hO2.sub ?_
    exact ((List.Sublist.refl [dd0]).append ((List.nil_sublist _).append ((List.nil_sublist _).append ((List.Sublist.refl [dd2]).append (List.nil_sublist _))))).append (List.Sublist.refl _)
  · have hN : NamedAt ρ' rel [dd0, dd2] := hd
    have a0 : ρ' rel = some (dd0.1, objSize dd0.2) := hN 0 _ rfl
    have a2 : ρ' (rel + 1) = some (dd2.1, objSize dd2.2) := hN 1 _ rfl
    obtain ⟨x1, x3⟩ := slotsL_own (ρ := ρ') hso v1
    obtain ⟨x6, x8⟩ := slabsL_own (ρ := ρ') hlo v5
    obtain ⟨y1, y2⟩ := r0 ρ' rel _ a0 x1 x3
    obtain ⟨y3, y4⟩ := r2 ρ' (rel + 1) _ a2 x6 x8
    rw [n1] at y1
    rw [n2] at y3
    refine ⟨?_, fun i t d hi hd2 => ?_, fun p hp => by cases hp⟩
    · show VR ρ' (.tup [.agg [.sl rel 0 C 4 .any, .osl (.var (b + 4 * C)), .bsym (.eq (.var (b + 4 * C + 1)) (.lit 0)) false, .sl (rel + 1) 0 S 5 .any], .int .i64 0]) _
      unfold VR
      refine ⟨_, rfl, VRs.cons ?_ (VRs.cons (by unfold VR; rfl) VRs.nil)⟩
      unfold VR
      refine ⟨_, rfl, VRs.cons y1 (VRs.cons (osl_own hsh1 v3 ρ') (VRs.cons ?_ (VRs.cons y3 VRs.nil)))⟩
      unfold VR
      simp only [Cnd.ev, SE.ev, v4]
      cases (Nums.σ (b + 4 * C + 1) == 0) <;> rfl
    · match i with
      | 0 =>
        simp only [kcSeeL, List.getElem?_cons_zero, Option.some.injEq] at hi hd2
        subst hi; subst hd2
        exact y2
      | 1 =>
        simp only [kcSeeL, List.getElem?_cons_succ, List.getElem?_cons_zero, Option.some.injEq] at hi hd2
        subst hi; subst hd2
        exact y4
      | i + 2 => simp [kcSeeL] at hi
end
end Go.Proofs.Ytmfemophafncnaa.Ex

/-
  Contracts: link.Fresh, count.Pack. No condition.
-/
namespace Go.Proofs.Ytmfemophafncnaa.Fast
open Go Mem See
open Go.RowKit
attribute [local go_sem ↓] Go.wp_at_zero Go.wp_at_succ
/-- links that rise: the first i of n -/
def freshL (n key : Nat) : List Nat := (List.range n).map fun i => if i + 1 = n then hideW (-1) key i else hideW ((i : Int) + 1) key i
/-- .. as the loop lays them: the first i -/
def freshI (n key i : Nat) : List Nat := (List.range n).map fun j => if j < i then hideW ((j : Int) + 1) key j else 0
section
variable {W w : World} {m : List (Nat × Obj)} {n key : Nat}
theorem freshI_zero : freshI n key 0 = List.replicate n 0 := by
  apply List.ext_getElem? 
  intro j
  simp [freshI, List.getElem?_replicate]
  by_cases h : j < n <;> simp [h]
theorem freshI_len (i : Nat) : (freshI n key i).length = n := by simp [freshI]
theorem freshI_set {i : Nat} (hi : i < n) : (freshI n key i).set i (hideW ((i : Int) + 1) key i) = freshI n key (i + 1) := by
  apply List.ext_getElem?
  intro j
  rw [List.getElem?_set]
  by_cases hij : i = j
  · subst hij
    simp [freshI, hi]
  · rw [if_neg hij]
    by_cases hj : j < n
    · simp only [freshI, List.getElem?_map, List.getElem?_range hj, Option.map_some]
      by_cases h1 : j < i
      · rw [if_pos h1, if_pos (by omega)]
      · rw [if_neg h1, if_neg (by omega)]
    · rw [List.getElem?_eq_none (by simp [freshI]; omega), List.getElem?_eq_none (by simp [freshI]; omega)]
theorem fresh_last (h : 0 < n) : (freshI n key n).set (n - 1) (hideW (-1) key (n - 1)) = freshL n key := by
  apply List.ext_getElem?
  intro j
  rw [List.getElem?_set]
  by_cases hij : n - 1 = j
  · subst hij
    have h1 : n - 1 < n := by omega
    have h2 : n - 1 + 1 = n := by omega
    simp [freshL, h1, h2, freshI]
  · rw [if_neg hij]
    by_cases hj : j < n
    · simp only [freshI, freshL, List.getElem?_map, List.getElem?_range hj, Option.map_some]
      rw [if_pos hj, if_neg (by omega)]
    · rw [List.getElem?_eq_none (by simp [freshI]; omega), List.getElem?_eq_none (by simp [freshL]; omega)]
theorem turned_eq (key i : Nat) : turned key i = hideW (-1) key i := by
  unfold hideW
  simp
end
end Go.Proofs.Ytmfemophafncnaa.Fast

/-
  Contract: count.Pack. No condition.
-/
namespace Go.Proofs.Ytmfemophafncnaa.See
open Go.RowKit
attribute [local go_sem ↓] Go.wp_at_zero Go.wp_at_succ
section
variable {W w : World} {m : List (Nat × Obj)}
theorem flag_spec (f : Bool) (x : Nat) (w : World) : Calls Try.prog 65 #[.bool f, .int .u64 x] w fun e w' => e = .returned (.int .u64 ((if f then x else 0 : Nat) : Int)) ∧ w = w' := by
  cases f
  all_goals
    go_enter Try.func65, Try.ntmps65
    go_wp2_with fail
    go_ret
    exact ⟨rfl, rfl⟩
theorem flag_y (x : Nat) (w : World) : Calls Try.prog 65 #[.bool true, .int .u64 x] w fun e w' => e = .returned (.int .u64 (x : Int)) ∧ w = w' := flag_spec true x w
theorem flag_n (x : Nat) (w : World) : Calls Try.prog 65 #[.bool false, .int .u64 x] w fun e w' => e = .returned (.int .u64 0) ∧ w = w' := flag_spec false x w
theorem or_low (b a i : Nat) (h : a < 2 ^ i) : a ||| 2 ^ i * b = 2 ^ i * b + a := by
  rw [Nat.or_comm]
  exact (Nat.two_pow_add_eq_or_of_lt h b).symm
theorem pack_bits (A B F L : Nat) (ha : A ≤ 255) (hb : B ≤ 255) (hf : F = 0 ∨ F = 65536) (hl : L = 0 ∨ L = 131072) :
    bits .or .u64 (bits .or .u64 (bits .or .u64 (IntKind.u64.wrap (A : Int)) (IntKind.u64.wrap (IntKind.u64.wrap (B : Int) * 256))) (F : Int)) (L : Int) = (A : Int) + 256 * (B : Int) + (F : Int) + (L : Int) := by
  have e1 : IntKind.u64.wrap (A : Int) = (A : Int) := by rw [IntKind.wrap_u64]; omega
  have e2 : IntKind.u64.wrap (IntKind.u64.wrap (B : Int) * 256) = ((256 * B : Nat) : Int) := by rw [IntKind.wrap_u64, IntKind.wrap_u64]; omega
  rw [e1, e2, u64_or_nat A (256 * B) (by omega) (by omega)]
  have h1 := or_low B A 8 (by omega)
  rw [show (2 : Nat) ^ 8 = 256 from rfl] at h1
  rw [h1, u64_or_nat (256 * B + A) F (by omega) (by omega)]
  have h2 : (256 * B + A) ||| F = 256 * B + A + F := by
    rcases hf with rfl | rfl
    · simp
    · have := or_low 1 (256 * B + A) 16 (by omega)
      simp only [Nat.mul_one] at this
      rw [show (2 : Nat) ^ 16 = 65536 from rfl] at this
      omega
  rw [h2, u64_or_nat (256 * B + A + F) L (by omega) (by omega)]
  have h3 : (256 * B + A + F) ||| L = 256 * B + A + F + L := by
    rcases hl with rfl | rfl
    · simp
    · have := or_low 1 (256 * B + A + F) 17 (by omega)
      simp only [Nat.mul_one] at this
      rw [show (2 : Nat) ^ 17 = 131072 from rfl] at this
      omega
  rw [h3]
  omega
/-- the word of counts -/
def packN (A B : Nat) (f l : Bool) : Nat := A + 256 * B + (if f then 65536 else 0) + (if l then 131072 else 0)
theorem nB_box {b : Nat} {a o : Int} {f l : Bool} (h : Own W ((b, .cells #[.int .i64 a, .int .i64 o, .bool f, .bool l] 48) :: m) w) : w.cell? ⟨b, 0, none⟩ = some (.int .i64 a) ∧ w.cell? ⟨b, 1, none⟩ = some (.int .i64 o) ∧ w.cell? ⟨b, 2, none⟩ = some (.bool f) ∧ w.cell? ⟨b, 3, none⟩ = some (.bool l) :=
  ⟨h.cell List.mem_cons_self 0, h.cell List.mem_cons_self 1, h.cell List.mem_cons_self 2, h.cell List.mem_cons_self 3⟩
set_option maxRecDepth 100000 in
set_option maxHeartbeats 2000000 in
theorem pack_ok (h : Own W m w) (A B : Nat) (ha : A ≤ 255) (hb : B ≤ 255) (f l : Bool) (hm : mayB A B f l = true) : Calls Try.prog 41 #[.agg #[.int .i64 A, .int .i64 B, .bool f, .bool l]] w fun e w' => e = .returned (.tuple #[.int .u64 (packN A B f l : Nat), .int .i64 0]) ∧ Own W m w' := by
  have h1 := h.new (.cells #[.int .i64 A, .int .i64 B, .bool f, .bool l] 48)
  obtain ⟨g, hg⟩ : ∃ g, w.heap.size = g := ⟨_, rfl⟩
  rw [hg] at h1
  have hmm := fun ws (hs : Own W ((g, Obj.cells #[.int .i64 A, .int .i64 B, .bool f, .bool l] 48) :: m) ws) => may_spec hs A B f l
  rw [hm] at hmm
  have HM := Lib.hid hmm
  have H1 := Lib.hid h1
  obtain ⟨y0, y1, y2, y3⟩ := nB_box h1
  clear hmm h1 h hm
  cases f <;> cases l
  · go_enter Try.func41, Try.ntmps41
    go_wp2_with fail
    refine (HM.out _ H1.out).mono ?_
    rintro e w2 ⟨rfl, h2⟩
    clear y0 y1 y2 y3
    obtain ⟨y0, y1, y2, y3⟩ := nB_box h2
    go_wp2_with fail
    go_region_held3 (fun w' => w'.cell? ⟨g, 0, none⟩ = some (.int .i64 A) ∧ w'.cell? ⟨g, 1, none⟩ = some (.int .i64 B) ∧ w'.cell? ⟨g, 2, none⟩ = some (.bool false) ∧ w'.cell? ⟨g, 3, none⟩ = some (.bool false)) (first | (refine ⟨?_, ?_, ?_, ?_⟩ <;> assumption) | go_keep)
      (first | (go_at_call 65; first | (refine (flag_n 65536 _).mono ?_; rintro e w' ⟨rfl, rfl⟩) | (refine (flag_n 131072 _).mono ?_; rintro e w' ⟨rfl, rfl⟩)))
    go_wp2_with fail
    go_ret2
    refine ⟨?_, h2.drew.skip⟩
    have hpb := pack_bits A B 0 0 ha hb (by simp) (by simp)
    simp [packN] at hpb ⊢
    omega
  · go_enter Try.func41, Try.ntmps41
    go_wp2_with fail
    refine (HM.out _ H1.out).mono ?_
    rintro e w2 ⟨rfl, h2⟩
    clear y0 y1 y2 y3
    obtain ⟨y0, y1, y2, y3⟩ := nB_box h2
    go_wp2_with fail
    go_region_held3 (fun w' => w'.cell? ⟨g, 0, none⟩ = some (.int .i64 A) ∧ w'.cell? ⟨g, 1, none⟩ = some (.int .i64 B) ∧ w'.cell? ⟨g, 2, none⟩ = some (.bool false) ∧ w'.cell? ⟨g, 3, none⟩ = some (.bool true)) (first | (refine ⟨?_, ?_, ?_, ?_⟩ <;> assumption) | go_keep)
      (first | (go_at_call 65; first | (refine (flag_n 65536 _).mono ?_; rintro e w' ⟨rfl, rfl⟩) | (refine (flag_y 131072 _).mono ?_; rintro e w' ⟨rfl, rfl⟩)))
    go_wp2_with fail
    go_ret2
    refine ⟨?_, h2.drew.skip⟩
    have hpb := pack_bits A B 0 131072 ha hb (by simp) (by simp)
    simp [packN] at hpb ⊢
    omega
  · go_enter Try.func41, Try.ntmps41
    go_wp2_with fail
    refine (HM.out _ H1.out).mono ?_
    rintro e w2 ⟨rfl, h2⟩
    clear y0 y1 y2 y3
    obtain ⟨y0, y1, y2, y3⟩ := nB_box h2
    go_wp2_with fail
    go_region_held3 (fun w' => w'.cell? ⟨g, 0, none⟩ = some (.int .i64 A) ∧ w'.cell? ⟨g, 1, none⟩ = some (.int .i64 B) ∧ w'.cell? ⟨g, 2, none⟩ = some (.bool true) ∧ w'.cell? ⟨g, 3, none⟩ = some (.bool false)) (first | (refine ⟨?_, ?_, ?_, ?_⟩ <;> assumption) | go_keep)
      (first | (go_at_call 65; first | (refine (flag_y 65536 _).mono ?_; rintro e w' ⟨rfl, rfl⟩) | (refine (flag_n 131072 _).mono ?_; rintro e w' ⟨rfl, rfl⟩)))
    go_wp2_with fail
    go_ret2
    refine ⟨?_, h2.drew.skip⟩
    have hpb := pack_bits A B 65536 0 ha hb (by simp) (by simp)
    simp [packN] at hpb ⊢
    omega
  · go_enter Try.func41, Try.ntmps41
    go_wp2_with fail
    refine (HM.out _ H1.out).mono ?_
    rintro e w2 ⟨rfl, h2⟩
    clear y0 y1 y2 y3
    obtain ⟨y0, y1, y2, y3⟩ := nB_box h2
    go_wp2_with fail
    go_region_held3 (fun w' => w'.cell? ⟨g, 0, none⟩ = some (.int .i64 A) ∧ w'.cell? ⟨g, 1, none⟩ = some (.int .i64 B) ∧ w'.cell? ⟨g, 2, none⟩ = some (.bool true) ∧ w'.cell? ⟨g, 3, none⟩ = some (.bool true)) (first | (refine ⟨?_, ?_, ?_, ?_⟩ <;> assumption) | go_keep)
      (first | (go_at_call 65; first | (refine (flag_y 65536 _).mono ?_; rintro e w' ⟨rfl, rfl⟩) | (refine (flag_y 131072 _).mono ?_; rintro e w' ⟨rfl, rfl⟩)))
    go_wp2_with fail
    go_ret2
    refine ⟨?_, h2.drew.skip⟩
    have hpb := pack_bits A B 65536 131072 ha hb (by simp) (by simp)
    simp [packN] at hpb ⊢
    omega
set_option maxRecDepth 100000 in
theorem pack_bad (h : Own W m w) (a b : Int) (f l : Bool) (hm : mayB a b f l = false) : Calls Try.prog 41 #[.agg #[.int .i64 a, .int .i64 b, .bool f, .bool l]] w fun e w' => e = .returned (.tuple #[.int .u64 0, .int .i64 2]) ∧ Own W m w' := by
  have h1 := h.new (.cells #[.int .i64 a, .int .i64 b, .bool f, .bool l] 48)
  obtain ⟨g, hg⟩ : ∃ g, w.heap.size = g := ⟨_, rfl⟩
  rw [hg] at h1
  have hmm := fun ws (hs : Own W ((g, Obj.cells #[.int .i64 a, .int .i64 b, .bool f, .bool l] 48) :: m) ws) => may_spec hs a b f l
  rw [hm] at hmm
  have HM := Lib.hid hmm
  have H1 := Lib.hid h1
  obtain ⟨y0, y1, y2, y3⟩ := nB_box h1
  clear hmm h1 h hm
  go_enter Try.func41, Try.ntmps41
  go_wp2_with fail
  refine (HM.out _ H1.out).mono ?_
  rintro e w2 ⟨rfl, h2⟩
  go_wp2_with fail
  go_ret2
  exact ⟨rfl, h2.skip⟩
end
end Go.Proofs.Ytmfemophafncnaa.See

/-
  Contract: link.Hide. No condition.
-/
namespace Go.Proofs.Ytmfemophafncnaa.See
open Go.RowKit
attribute [local go_sem ↓] Go.wp_at_zero Go.wp_at_succ
/-- what Hide answers -/
def hideV (i : Int) (key : Nat) (n : Int) : Value := if (-1 ≤ i ∧ i < 16) ∧ (0 ≤ n ∧ n < 16) then .tuple #[.int .u64 (hideW i key n.toNat : Nat), .int .i64 0] else .tuple #[.int .u64 0, .int .i64 2]
set_option maxRecDepth 100000 in
set_option maxHeartbeats 2000000 in
theorem hide_spec (i : Int) (key : Nat) (n : Int) (hk : key < 18446744073709551616) (w : World) : Calls Try.prog 61 #[.int .i64 i, .int .u64 key, .int .i64 n] w fun e w' => e = .returned (hideV i key n) ∧ w = w' := by
  have ho := fun w => object_spec i w
  have hn := fun w => object_spec n w
  unfold hideV
  by_cases hi : -1 ≤ i ∧ i < 16
  · by_cases hnn : 0 ≤ n ∧ n < 16
    · rw [if_pos ⟨hi, hnn⟩]
      obtain ⟨n, rfl⟩ : ∃ k : Nat, n = k := ⟨n.toNat, by omega⟩
      have ht := fun w => turned_spec key n hk (by omega) w
      have hb := u64_xor_nat (i + 1).toNat (turned key n) (by omega) (turned_lt key n)
      rw [show (((i + 1).toNat : Nat) : Int) = i + 1 from by omega] at hb
      have hw : IntKind.u64.wrap (i + 1) = i + 1 := by rw [IntKind.wrap_u64]; omega
      rw [oIs_yes hnn] at hn
      rw [Int.toNat_natCast]
      unfold hideW
      obtain ⟨T, hT⟩ : ∃ T, turned key n = T := ⟨_, rfl⟩
      obtain ⟨X, hX⟩ : ∃ X, (i + 1).toNat ^^^ T = X := ⟨_, rfl⟩
      rw [hT] at ht hb ⊢
      rw [hX] at hb ⊢
      have HT := Lib.hid ht
      have HN := Lib.hid hn
      by_cases h1 : i = -1
      · subst h1
        rw [show (-1 : Int) + 1 = 0 from rfl] at hb hw
        clear ht hn hT hX hk ho
        go_enter Try.func61, Try.ntmps61
        go_wp2_with (first | (go_at_call 82; refine (HN.out _).mono ?_; rintro e w' ⟨rfl, rfl⟩) | (go_at_call 83; refine (HT.out _).mono ?_; rintro e w' ⟨rfl, rfl⟩))
        go_ret2
        exact ⟨rfl, rfl⟩
      · rw [oIs_yes (by omega)] at ho
        have HO := Lib.hid ho
        have hne : (i != -1) = true := by simpa using h1
        clear ht hn hT hX hk ho
        go_enter Try.func61, Try.ntmps61
        go_wp2_with (first | (go_at_call 82; first | (refine (HO.out _).mono ?_; rintro e w' ⟨rfl, rfl⟩) | (refine (HN.out _).mono ?_; rintro e w' ⟨rfl, rfl⟩)) | (go_at_call 83; refine (HT.out _).mono ?_; rintro e w' ⟨rfl, rfl⟩))
        go_ret2
        exact ⟨rfl, rfl⟩
    · rw [if_neg (fun h => hnn h.2)]
      rw [oIs_no hnn] at hn
      have HN := Lib.hid hn
      by_cases h1 : i = -1
      · subst h1
        clear hn ho hk
        go_enter Try.func61, Try.ntmps61
        go_wp2_with (go_at_call 82; refine (HN.out _).mono ?_; rintro e w' ⟨rfl, rfl⟩)
        go_ret2
        exact ⟨rfl, rfl⟩
      · rw [oIs_yes (by omega)] at ho
        have HO := Lib.hid ho
        have hne : (i != -1) = true := by simpa using h1
        clear hn ho hk
        go_enter Try.func61, Try.ntmps61
        go_wp2_with (go_at_call 82; first | (refine (HO.out _).mono ?_; rintro e w' ⟨rfl, rfl⟩) | (refine (HN.out _).mono ?_; rintro e w' ⟨rfl, rfl⟩))
        go_ret2
        exact ⟨rfl, rfl⟩
  · rw [if_neg (fun h => hi h.1)]
    rw [oIs_no (by omega)] at ho
    have HO := Lib.hid ho
    have hne : (i != -1) = true := by simp; omega
    clear hn ho hk
    go_enter Try.func61, Try.ntmps61
    go_wp2_with (go_at_call 82; refine (HO.out _).mono ?_; rintro e w' ⟨rfl, rfl⟩)
    go_ret2
    exact ⟨rfl, rfl⟩
end Go.Proofs.Ytmfemophafncnaa.See

/-
  wainscotref00.Bring brings a number to be from 0 to below another one, which is above 0 and at most 2^62.
-/
namespace Go.Proofs.Ytmfemophafncnaa
open Go.RowKit

theorem tmod_emod (i n : Int) (hn : 1 ≤ n) : -n < i.tmod n ∧ i.tmod n < n ∧ (i.tmod n < 0 → i.tmod n + n = i % n) ∧ (0 ≤ i.tmod n → i.tmod n = i % n) := by
  have h1 := Int.emod_nonneg i (show n ≠ 0 from by omega)
  have h2 := Int.emod_lt_of_pos i (show 0 < n from by omega)
  have h3 := Int.tmod_eq_emod (a := i) (b := n)
  have h4 : n ∣ i ↔ i % n = 0 := Int.dvd_iff_emod_eq_zero
  have h5 : (n.natAbs : Int) = n := by omega
  have h6 : 0 ≤ i → 0 ≤ i.tmod n := fun h => Int.tmod_nonneg n h
  by_cases h0 : 0 ≤ i ∨ n ∣ i
  · rw [if_pos h0] at h3
    omega
  · rw [if_neg h0, h5] at h3
    have : ¬ n ∣ i := fun h => h0 (.inr h)
    have h7 : i % n ≠ 0 := fun h => this (h4.2 h)
    omega
theorem i64_of_wf {n : Int} (h : (Lit.int .i64 n).wf = true) : -9223372036854775808 ≤ n ∧ n ≤ 9223372036854775807 := by
  simpa [Lit.wf, IntKind.min, IntKind.max, IntKind.signed, IntKind.bits] using h
theorem emod_bd (i n : Int) (hn : 1 ≤ n) : 0 ≤ i % n ∧ i % n < n := ⟨Int.emod_nonneg _ (by omega), Int.emod_lt_of_pos _ (by omega)⟩

set_option maxHeartbeats 400000 in
theorem bring_spec (i n : Int) (h1 : 1 ≤ n) (h2 : n ≤ 4611686018427387904) (hi : (Lit.int .i64 i).wf = true) (w : World) :
    Calls Try.prog 10 #[.int .i64 i, .int .i64 n] w fun e w' => e = .returned (.int .i64 (i % n)) ∧ w = w' := by
  obtain ⟨t1, t2, t3, t4⟩ := tmod_emod i n h1
  have hi := i64_of_wf hi
  have T3 := Lib.hid t3
  have T4 := Lib.hid t4
  clear t3 t4
  by_cases h0 : 0 ≤ i
  · have hp : i.tmod n = i % n := T4.out (Int.tmod_nonneg n h0)
    have hq := emod_bd i n h1
    have H := Lib.hid hp
    clear hp
    go_enter Try.func10, Try.ntmps10
    go_wp2
    all_goals first | (exfalso; omega) | skip
    all_goals go_ret
    all_goals exact ⟨rfl, rfl⟩
  · go_enter Try.func10, Try.ntmps10
    go_wp2
    all_goals go_ret
    · rename_i hlt
      exact ⟨by simpa using T3.out (by assumption), rfl⟩
    · exact ⟨by simpa using T4.out (by assumption), rfl⟩
theorem bring_id (i n : Int) (h0 : 0 ≤ i) (h1 : i < n) (h2 : n ≤ 4611686018427387904) (w : World) :
    Calls Try.prog 10 #[.int .i64 i, .int .i64 n] w fun e w' => e = .returned (.int .i64 i) ∧ w = w' := by
  have c := bring_spec i n (by omega) h2 (by simp [Lit.wf, IntKind.min, IntKind.max, IntKind.signed, IntKind.bits]; omega) w
  rwa [Int.emod_eq_of_lt h0 h1] at c
end Go.Proofs.Ytmfemophafncnaa

/-
  wainscotref00.EqInts answers whether two lists of numbers are one.
-/
namespace Go.Proofs.Ytmfemophafncnaa
open Go.RowKit

theorem take_eq_of {a b : List Int} {k : Nat} {x y : Int} (ha : a[k]? = some x) (hb : b[k]? = some y) (h : a.take k = b.take k) (hxy : x = y) : a.take (k + 1) = b.take (k + 1) := by
  rw [List.take_add_one, List.take_add_one, ha, hb, h, hxy]
set_option maxHeartbeats 1000000 in
theorem eqInts_spec {w : World} {v1 v2 : Value} {l1 l2 : List Int} (h1 : IntsSrc w v1 l1) (h2 : IntsSrc w v2 l2) (hl1 : l1.length ≤ 60000) (hl2 : l2.length ≤ 60000) :
    Calls Try.prog 11 #[v1, v2] w fun e w' => e = .returned (.bool (decide (l1 = l2))) ∧ ∃ n, w' = w.drewN n := by
  have f1 : ∃ A c, v1 = .slice A l1.length c := by
    rcases h1.2 with ⟨rfl, h0⟩ | ⟨a, c, rfl, _⟩
    · exact ⟨none, 0, by rw [h0]⟩
    · exact ⟨_, c, rfl⟩
  have f2 : ∃ A c, v2 = .slice A l2.length c := by
    rcases h2.2 with ⟨rfl, h0⟩ | ⟨a, c, rfl, _⟩
    · exact ⟨none, 0, by rw [h0]⟩
    · exact ⟨_, c, rfl⟩
  obtain ⟨A1, c1, rfl⟩ := f1
  obtain ⟨A2, c2, rfl⟩ := f2
  by_cases hl : l1.length = l2.length
  · have H1 := Lib.hid h1
    have H2 := Lib.hid h2
    clear h1 h2
    have hb : ((l1.length : Int) != (l2.length : Int)) = false := by rw [hl]; simp
    have HL := Lib.hid hl
    clear hl
    go_enter Try.func11, Try.ntmps11
    go_wp2_with fail
    go_loopw [5] (fun k wr => ∃ i : Nat, i ≤ l1.length ∧ k = .int .i64 i ∧ l1.take i = l2.take i ∧ ∃ n, wr = w.drewN n) (fun k _ => l1.length - (intOf k).toNat)
    case atStart => exact ⟨0, Nat.zero_le _, rfl, by simp, 0, rfl⟩
    case round =>
      obtain ⟨i, hi, rfl, hT, nq0, rfl⟩ := hrel
      have HT := Lib.hid hT
      clear hT
      by_cases hlt : i < l1.length
      · rcases H1.out.2 with ⟨_, h0⟩ | ⟨a1, k1, he1, hc1⟩
        · omega
        rcases H2.out.2 with ⟨_, h0⟩ | ⟨a2, k2, he2, hc2⟩
        · have := HL.out; omega
        cases he1
        cases he2
        obtain ⟨x, hx⟩ : ∃ x, l1[i]? = some x := ⟨_, List.getElem?_eq_getElem hlt⟩
        obtain ⟨y, hy⟩ : ∃ y, l2[i]? = some y := ⟨_, List.getElem?_eq_getElem (by have := HL.out; omega)⟩
        have cx := hc1 i _ (ints_get hx)
        have cy := hc2 i _ (ints_get hy)
        have i0 : (0 : Int) ≤ (i : Int) := by omega
        have i1 : (i : Int) < (l1.length : Int) := by omega
        have i2 : (i : Int) < (l2.length : Int) := by have := HL.out; omega
        have HX := Lib.hid hx
        have HY := Lib.hid hy
        clear hx hy hc1 hc2
        by_cases hxy : x = y
        · have hxb : (x != y) = false := by simpa using hxy
          have HXY := Lib.hid hxy
          clear hxy
          go_wp2_with fail
          go_quiet (fail)
          go_wp2_with fail
          go_roundw
          case rel => exact ⟨i + 1, by omega, by go_num, take_eq_of HX.out HY.out HT.out HXY.out, nq0 + nq, by first | rfl | rw [World.drewN_drewN]⟩
          case measure => simp [intOf]; omega
        · have hxb : (x != y) = true := by simpa using hxy
          have HXY := Lib.hid hxy
          clear hxy
          go_wp2_with fail
          go_quiet (fail)
          go_wp2_with fail
          go_ret
          refine ⟨?_, nq0 + nq, by first | rfl | rw [World.drewN_drewN]⟩
          have : l1 ≠ l2 := fun he => HXY.out (by have := HX.out; rw [he, HY.out] at this; exact (Option.some.inj this).symm)
          rw [decide_eq_false this]; rfl
      · obtain rfl : i = l1.length := by omega
        go_wp2_with fail
        go_ret
        refine ⟨?_, _, rfl⟩
        have : l1 = l2 := by
          have h := HT.out
          rw [List.take_of_length_le (Nat.le_refl _), HL.out, List.take_of_length_le (Nat.le_refl _)] at h
          exact h
        rw [decide_eq_true this]; rfl
  · have hb : ((l1.length : Int) != (l2.length : Int)) = true := by simp; omega
    have hne : l1 ≠ l2 := fun he => hl (by rw [he])
    have HN := Lib.hid hne
    clear hne hl h1 h2
    go_enter Try.func11, Try.ntmps11
    go_wp2_with fail
    go_ret
    exact ⟨by rw [decide_eq_false HN.out]; rfl, 0, rfl⟩
section
variable {W : World} {m : List (Nat × Obj)} {w : World}
theorem eqInts_yes {v1 v2 : Value} {l1 l2 : List Int} (h1 : IntsSrc w v1 l1) (h2 : IntsSrc w v2 l2) (hl1 : l1.length ≤ 60000) (he : l1 = l2) (h : Own W m w) :
    Calls Try.prog 11 #[v1, v2] w fun e w' => e = .returned (.bool true) ∧ Own W m w' := by
  subst he
  refine (eqInts_spec h1 h2 hl1 hl1).mono ?_
  rintro e w' ⟨rfl, n, rfl⟩
  exact ⟨by simp, h.drewN n⟩
end
end Go.Proofs.Ytmfemophafncnaa

/-
  Functions of the packages below, as known calls of the runner: mem.New, link.Fresh, link.Hide, count.Pack, Counts, PartOf, slices.Clone, Bring, EqInts. No condition.
-/
namespace Go.Proofs.Ytmfemophafncnaa.Ex
open Go Mem See Fast
open Go.RowKit
section
theorem fn_new : FnOk Try.prog 13 := ⟨Try.f13, _, Try.func13, by kernel_rfl, rfl⟩
theorem fn_pack : FnOk Try.prog 41 := ⟨Try.f41, _, Try.func41, by kernel_rfl, rfl⟩
theorem fn_counts : FnOk Try.prog 57 := ⟨Try.f57, _, Try.func57, by kernel_rfl, rfl⟩
theorem fn_partOf : FnOk Try.prog 23 := ⟨Try.f23, _, Try.func23, by kernel_rfl, rfl⟩
theorem fn_hide : FnOk Try.prog 61 := ⟨Try.f61, _, Try.func61, by kernel_rfl, rfl⟩
theorem fn_clone : FnOk Try.prog 31 := ⟨Try.f31, _, Try.func31, by kernel_rfl, rfl⟩
theorem fn_eqInts : FnOk Try.prog 11 := ⟨Try.f11, _, Try.func11, by kernel_rfl, rfl⟩
theorem fn_bringK : FnOk Try.prog 10 := ⟨Try.f10, _, Try.func10, by kernel_rfl, rfl⟩
/-- words, in the runner's words -/
abbrev natsI (g : List Nat) : List Int := g.map fun (x : Nat) => (x : Int)
theorem natsI_get {g : List Nat} {i x : Nat} (h : g[i]? = some x) : (natsI g)[i]? = some (x : Int) := by simp [natsI, h]
theorem natsI_len (g : List Nat) : (natsI g).length = g.length := by simp [natsI]
variable [Nums]
/-- a list is what an expression says -/
structure LsIs (σ : Nat → Int) (L : SE) (g : List Int) : Prop where
  len : L.evN σ = g.length
  at_ : ∀ (i : Nat) x, g[i]? = some x → L.evA σ i 0 = x
omit [Nums] in
theorem LsIs.var {σ : Nat → Int} {q : Nat} {g : List Int} (h : LsVal σ q g) : LsIs σ (.lvar q) g := ⟨by simp only [SE.evN, h.1], fun i x hx => by simp only [SE.evA, h.2 i x hx]⟩
theorem tr_words {ρ : Ren} {L : SE} {b : Nat} {g : List Nat} (h : LsIs Nums.σ L (natsI g)) : TR ρ (.recs L [.int .u64] 26) (objSize (wB b g).2) (some (wB b g).2) := by
  refine ⟨wRow g, rfl, rfl, ?_, fun r j k hr hk => ?_⟩
  · simp only [h.len, List.length_cons, List.length_nil, Nat.zero_add, Nat.mul_one, natsI_len]
    simp [objSize, wB, wRow, words]
  · rw [h.len, natsI_len] at hr
    have hj : j = 0 := by
      have := (List.getElem?_eq_some_iff.1 hk).1
      simp only [List.length_cons, List.length_nil] at this
      omega
    subst hj
    simp only [List.getElem?_cons_zero, Option.some.injEq] at hk
    subst hk
    simp only [List.length_cons, List.length_nil, Nat.zero_add, Nat.mul_one, Nat.add_zero]
    rw [h.at_ r _ (natsI_get (List.getElem?_eq_getElem hr)), wRow_get (List.getElem?_eq_getElem hr)]
    rfl
/-- a slice that reads as words -/
theorem src_words {ρ : Ren} {L : SE} {b s len c : Nat} {o : Obj} {g : List Nat} {W w : World} {m : List (Nat × Obj)} (h : TR ρ (.recs L [.int .u64] 26) s (some o)) (hL : LsIs Nums.σ L (natsI g)) (hlen : len = g.length) (hO : Own W m w) (hm : (b, o) ∈ m) :
    WordsSrc w (.slice (some ⟨b, 0, none⟩) len c) g := by
  obtain ⟨cur, h1, h2, h3, h4⟩ := h
  simp only [Option.some.injEq] at h1
  subst h1
  subst hlen
  refine ⟨by rw [words_len, Nat.mul_one], .inr ⟨_, _, rfl, fun j u hj => ?_⟩⟩
  rw [add_lit0]
  have hjl : j < g.length := by
    have := (List.getElem?_eq_some_iff.1 hj).1
    rwa [words_len] at this
  rw [words_get (List.getElem?_eq_getElem hjl)] at hj
  cases hj
  rw [hO.cell hm]
  have := h4 j 0 (.int .u64) (by rw [hL.len, natsI_len]; exact hjl) rfl
  simp only [List.length_cons, List.length_nil, Nat.zero_add, Nat.mul_one, Nat.add_zero] at this
  rw [this, hL.at_ j _ (natsI_get (List.getElem?_eq_getElem hjl))]
  rfl
/-- .. as numbers -/
theorem src_ints {ρ : Ren} {L : SE} {b s len c : Nat} {o : Obj} {g : List Int} {W w : World} {m : List (Nat × Obj)} (h : TR ρ (.recs L [.int .i64] 3) s (some o)) (hL : LsIs Nums.σ L g) (hlen : len = g.length) (hO : Own W m w) (hm : (b, o) ∈ m) :
    IntsSrc w (.slice (some ⟨b, 0, none⟩) len c) g := by
  obtain ⟨cur, h1, h2, h3, h4⟩ := h
  simp only [Option.some.injEq] at h1
  subst h1
  subst hlen
  refine ⟨by rw [ints_len, Nat.mul_one], .inr ⟨_, _, rfl, fun j u hj => ?_⟩⟩
  rw [add_lit0]
  have hjl : j < g.length := by
    have := (List.getElem?_eq_some_iff.1 hj).1
    rwa [ints_len] at this
  rw [ints_get (List.getElem?_eq_getElem hjl)] at hj
  cases hj
  rw [hO.cell hm]
  have := h4 j 0 (.int .i64) (by rw [hL.len]; exact hjl) rfl
  simp only [List.length_cons, List.length_nil, Nat.zero_add, Nat.mul_one, Nat.add_zero] at this
  rw [this, hL.at_ j _ (List.getElem?_eq_getElem hjl)]
  rfl
/-- mem.New -/
theorem kc_new {n : SE} {q N : Nat} (hn : n.ev Nums.σ = (N : Int)) (h1 : 1 ≤ N) (h2 : N ≤ 4096) (hv : LsVal Nums.σ q (natsI (List.replicate N 0))) :
    KcOk Try.prog { f := 13, args := [.sym .i64 n], news := [.cells [.dsl (rel + 1) n 1, .int .i64 0] 78, .recs (.lvar q) [.int .u64] 26], res := .tup [.ptr rel 0, .int .i64 0] } := by
  refine kc_own fn_new (by intro p hp; cases hp) (by intro p hp; cases hp) fun hcs ρ W w m args' bs hF ha hO => ?_
  have hbs : bs = [] := hF
  subst hbs
  have ha := VRs.shut ha rfl
  have ha : args' = #[.int .i64 (N : Int)] := by
    apply Array.ext'
    rw [ha]
    simp only [valsOf, Ex.valOf, hn]
  subst ha
  refine (new_spec hO h1 h2).mono ?_
  rintro e w' ⟨b0, b1, rfl, h'⟩
  refine ⟨_, [mB b0 b1 N 0, wB b1 (List.replicate N 0)], [], rfl, h', rfl, rfl, fun ρ' _ hd => ?_⟩
  have d0 : ρ' rel = some (b0, 2) := hd 0 _ rfl
  have d1 : ρ' (rel + 1) = some (b1, (wRow (List.replicate N 0)).size) := hd 1 _ rfl
  have hsz : (wRow (List.replicate N 0)).size = N := by simp [wRow, words]
  rw [hsz] at d1
  refine ⟨?_, fun j t d hj hd2 => ?_, fun p hp => by cases hp⟩
  · unfold VR
    refine ⟨_, rfl, VRs.cons ?_ (VRs.cons (by unfold VR; rfl) VRs.nil)⟩
    unfold VR
    exact ⟨b0, _, d0, rfl⟩
  · match j with
    | 0 =>
      simp only [List.getElem?_cons_zero, Option.some.injEq] at hj hd2
      subst hj; subst hd2
      refine ⟨_, rfl, rfl, Nat.le_refl _, fun i v hi => ?_⟩
      match i with
      | 0 =>
        simp only [List.getElem?_cons_zero, Option.some.injEq] at hi
        subst hi
        refine ⟨rfl, _, rfl, ?_⟩
        unfold VR
        exact ⟨b1, N, N, N, d1, rfl, Nat.le_refl _, by unfold maxLen; omega, by omega, hn⟩
      | 1 =>
        simp only [List.getElem?_cons_succ, List.getElem?_cons_zero, Option.some.injEq] at hi
        subst hi
        exact ⟨rfl, _, rfl, by unfold VR; rfl⟩
      | i + 2 => simp at hi
    | 1 =>
      simp only [List.getElem?_cons_succ, List.getElem?_cons_zero, Option.some.injEq] at hj hd2
      subst hj; subst hd2
      exact tr_words (.var hv)
    | j + 2 => simp at hj
/-- slices.Clone, of words -/
theorem kc_clone {n q : Nat} {len L : SE} {g : List Nat} (hn : n < rel) (hL : LsIs Nums.σ L (natsI g)) (hlen : len.ev Nums.σ = (g.length : Int)) (h0 : 0 < g.length) (h1 : g.length ≤ 4096) (hv : LsVal Nums.σ q (natsI g)) :
    KcOk Try.prog { f := 31, args := [.dsl n len 1], pre := [(n, .recs L [.int .u64] 26)], post := [(n, .recs L [.int .u64] 26)], news := [.recs (.lvar q) [.int .u64] 26], res := .dsl rel (.len (.lvar q)) 1 } := by
  refine kc_own fn_clone (by intro p hp; simp only [List.mem_cons, List.not_mem_nil, or_false] at hp; subst hp; exact ⟨_, List.mem_cons_self⟩)
    (by intro p hp; simp only [List.mem_cons, List.not_mem_nil, or_false] at hp; subst hp; exact hn) fun _ ρ W w m args' bs hF ha hO => ?_
  obtain ⟨bw, ow, sw, r, rfl, pw, tw, rfl⟩ := hF
  obtain ⟨y, hy, hp⟩ := ha.one
  unfold VR at hp
  obtain ⟨bw', zw, ln', cap, pw', rfl, hlc, hcm, hz, hlen'⟩ := hp
  rw [pw] at pw'
  cases pw'
  have hl : ln' = g.length := by rw [hlen] at hlen'; omega
  subst hl
  have hargs2 : args' = #[.slice (some ⟨bw, 0, none⟩) g.length cap] := by
    apply Array.ext'
    rw [hy]
  subst hargs2
  have hs := src_words (c := cap) tw hL rfl hO List.mem_cons_self
  refine (clone_spec hO hs (by omega)).mono ?_
  rintro e w' ⟨v', bs', rfl, hw, h'⟩
  obtain ⟨gg, cp, cur, rfl, rfl, c1, c2, ⟨c3, c4⟩, c5⟩ := SlO.form hw h0
  have c4 := c4 rfl
  refine ⟨_, [(gg, .cells cur 26)], [(bw, ow)], rfl, h', rfl, rfl, fun ρ' hk hd => ?_⟩
  have d0 : ρ' rel = some (gg, cur.size) := hd 0 _ rfl
  refine ⟨?_, fun j t d hj hd2 => ?_, fun p hp => ?_⟩
  · unfold VR
    refine ⟨gg, cur.size, _, cp, d0, rfl, c1, c2, c4.symm, ?_⟩
    simp only [SE.ev, SE.evN, hv.1, natsI_len]
  · match j with
    | 0 =>
      simp only [List.getElem?_cons_zero, Option.some.injEq] at hj hd2
      subst hj; subst hd2
      refine ⟨cur, rfl, rfl, ?_, fun r j' k' hr hk' => ?_⟩
      · simp only [SE.evN, hv.1, natsI_len, List.length_cons, List.length_nil, Nat.zero_add, Nat.mul_one]
        show g.length ≤ cur.size
        omega
      · simp only [SE.evN, hv.1, natsI_len] at hr
        have hj0 : j' = 0 := by
          have := (List.getElem?_eq_some_iff.1 hk').1
          simp only [List.length_cons, List.length_nil] at this
          omega
        subst hj0
        simp only [List.getElem?_cons_zero, Option.some.injEq] at hk'
        subst hk'
        simp only [List.length_cons, List.length_nil, Nat.zero_add, Nat.mul_one, Nat.add_zero, SE.evA]
        rw [hv.2 r _ (natsI_get (List.getElem?_eq_getElem hr))]
        have h6 : (cur.toList.take (g.length * 1))[r]? = (words g)[r]? := by rw [c5]
        rw [List.getElem?_take, if_pos (show r < g.length * 1 from by omega), words_get (List.getElem?_eq_getElem hr)] at h6
        rw [← Array.getElem?_toList, h6]
        rfl
    | j + 1 => simp at hj
  · simp only [List.mem_cons, List.not_mem_nil, or_false] at hp
    subst hp
    exact ⟨bw, ow, sw, by simp, pw, tw⟩
/-- Bring -/
theorem kc_bring {a b : AV} {r : Nat} {x n : Int} (h1 : a.shut = true) (h2 : b.shut = true) (ha : Ex.valOf Nums.σ a = .int .i64 x) (hb : Ex.valOf Nums.σ b = .int .i64 n) (hn : 1 ≤ n) (hn2 : n ≤ 100000) (hx : (Lit.int .i64 x).wf = true) (hr : Nums.σ r = x % n) :
    KcOk Try.prog { f := 10, args := [a, b], res := .sym .i64 (.var r) } := by
  refine kc_pure (by simp only [AV.shuts, h1, h2, Bool.and_self]) rfl rfl rfl rfl fn_bringK fun _ W w m hO => ?_
  rw [show (valsOf Nums.σ [a, b]).toArray = #[.int .i64 x, .int .i64 n] from by simp only [valsOf, ha, hb]]
  refine (bring_spec x n hn (by omega) hx w).mono ?_
  rintro e w' ⟨rfl, rfl⟩
  refine ⟨?_, hO⟩
  simp only [Ex.valOf, SE.ev, hr]
/-- count.Pack -/
theorem kc_pack {i o : SE} {fz : Bool} {r A B : Nat} (hi : i.ev Nums.σ = (A : Int)) (ho : o.ev Nums.σ = (B : Int)) (h1 : A ≤ B) (h2 : 1 ≤ B) (h3 : B ≤ 16) (hr : Nums.σ r = (packN A B fz true : Nat)) :
    KcOk Try.prog { f := 41, args := [.agg [.sym .i64 i, .sym .i64 o, .bool fz, .bool true]], res := .tup [.sym .u64 (.var r), .int .i64 0] } := by
  refine kc_pure rfl rfl rfl rfl rfl fn_pack fun _ W w m hO => ?_
  rw [show (valsOf Nums.σ [.agg [.sym .i64 i, .sym .i64 o, .bool fz, .bool true]]).toArray = #[.agg #[.int .i64 (A : Int), .int .i64 (B : Int), .bool fz, .bool true]] from by simp only [valsOf, Ex.valOf, hi, ho]]
  refine (pack_ok hO A B (by omega) (by omega) fz true (by unfold mayB; exact decide_eq_true (.inl ⟨rfl, by omega, by omega, by omega, by omega⟩))).mono ?_
  rintro e w' ⟨rfl, h'⟩
  refine ⟨?_, h'⟩
  simp only [Ex.valOf, valsOf, SE.ev, hr]
omit [Nums] in
/-- count.Counts, of a word that Pack gave -/
theorem countsV_pack {A B : Nat} {fz : Bool} (h1 : A ≤ B) (h2 : 1 ≤ B) (h3 : B ≤ 16) : countsV (packN A B fz true) = .tuple #[.agg #[.int .i64 (A : Int), .int .i64 (B : Int), .bool fz, .bool true], .bool true] := by
  have key : ∀ B : Fin 17, ∀ A : Fin 17, ∀ fz : Bool, 1 ≤ B.val → A.val ≤ B.val → countsOf (packN A.val B.val fz true) = some ⟨A.val, B.val, fz, true⟩ := by decide
  have h := key ⟨B, by omega⟩ ⟨A, by omega⟩ fz h2 h1
  unfold countsV
  rw [h]
theorem kc_counts {K i o : SE} {fz : Bool} {A B : Nat} (hK : K.ev Nums.σ = (packN A B fz true : Nat)) (hi : i.ev Nums.σ = (A : Int)) (ho : o.ev Nums.σ = (B : Int)) (h1 : A ≤ B) (h2 : 1 ≤ B) (h3 : B ≤ 16) :
    KcOk Try.prog { f := 57, args := [.sym .u64 K], res := .tup [.agg [.sym .i64 i, .sym .i64 o, .bool fz, .bool true], .bool true] } := by
  refine kc_pure rfl rfl rfl rfl rfl fn_counts fun _ W w m hO => ?_
  rw [show (valsOf Nums.σ [.sym .u64 K]).toArray = #[.int .u64 ((packN A B fz true : Nat) : Int)] from by simp only [valsOf, Ex.valOf, hK]]
  refine (counts_spec hO (packN A B fz true) (by unfold packN; split <;> split <;> omega)).mono ?_
  rintro e w' ⟨rfl, h'⟩
  refine ⟨?_, h'⟩
  rw [countsV_pack h1 h2 h3]
  simp only [Ex.valOf, valsOf, hi, ho]
/-- count.PartOf, of nothing -/
theorem kc_partOf0 {N : SE} (h : N.ev Nums.σ = 0) : KcOk Try.prog { f := 23, args := [.sym .u64 N], res := .tup [.int .i64 (-1), .int .i64 0, .bool true] } := by
  refine kc_pure rfl rfl rfl rfl rfl fn_partOf fun _ W w m hO => ?_
  rw [show (valsOf Nums.σ [.sym .u64 N]).toArray = #[.int .u64 ((0 : Nat) : Int)] from by simp only [valsOf, Ex.valOf, h]; rfl]
  refine (partOf_spec 0 (by omega) w).mono ?_
  rintro e w' ⟨rfl, rfl⟩
  exact ⟨by rfl, hO⟩
/-- link.Hide -/
theorem kc_hide {i ky n : SE} {r key : Nat} {x y : Int} (hi : i.ev Nums.σ = x) (hk : ky.ev Nums.σ = (key : Int)) (hn : n.ev Nums.σ = y) (h1 : -1 ≤ x ∧ x < 16) (h2 : 0 ≤ y ∧ y < 16) (hk2 : key < 18446744073709551616) (hr : Nums.σ r = (hideW x key y.toNat : Nat)) :
    KcOk Try.prog { f := 61, args := [.sym .i64 i, .sym .u64 ky, .sym .i64 n], res := .tup [.sym .u64 (.var r), .int .i64 0] } := by
  refine kc_pure rfl rfl rfl rfl rfl fn_hide fun _ W w m hO => ?_
  rw [show (valsOf Nums.σ [.sym .i64 i, .sym .u64 ky, .sym .i64 n]).toArray = #[.int .i64 x, .int .u64 (key : Int), .int .i64 y] from by simp only [valsOf, Ex.valOf, hi, hk, hn]]
  refine (hide_spec x key y hk2 w).mono ?_
  rintro e w' ⟨rfl, rfl⟩
  refine ⟨?_, hO⟩
  unfold hideV
  rw [if_pos ⟨h1, h2⟩]
  simp only [Ex.valOf, valsOf, SE.ev, hr]
/-- EqInts, of two lists that are one -/
theorem kc_eqInts {a b : Nat} {La Lb na nb : SE} {g : List Int} (ha : a < rel) (hb : b < rel) (hLa : LsIs Nums.σ La g) (hLb : LsIs Nums.σ Lb g) (hna : na.ev Nums.σ = (g.length : Int)) (hnb : nb.ev Nums.σ = (g.length : Int)) (hl : g.length ≤ 60000) :
    KcOk Try.prog { f := 11, args := [.dsl a na 1, .dsl b nb 1], pre := [(a, .recs La [.int .i64] 3), (b, .recs Lb [.int .i64] 3)], post := [(a, .recs La [.int .i64] 3), (b, .recs Lb [.int .i64] 3)], res := .bool true } := by
  refine kc_own fn_eqInts (by intro p hp; simp only [List.mem_cons, List.not_mem_nil, or_false] at hp; exact hp.elim (fun h => h ▸ ⟨_, List.mem_cons_self⟩) (fun h => h ▸ ⟨_, List.mem_cons_of_mem _ List.mem_cons_self⟩))
    (by intro p hp; simp only [List.mem_cons, List.not_mem_nil, or_false] at hp; rcases hp with rfl | rfl <;> assumption) fun _ ρ W w m args' bs hF ha' hO => ?_
  obtain ⟨b0, o0, s0, r, rfl, p0, t0, b1, o1, s1, r1, rfl, p1, t1, rfl⟩ := hF
  obtain ⟨y, y2, hy, hp, hp2⟩ := VRs.two ha'
  unfold VR at hp hp2
  obtain ⟨c0, z0, l0, cap0, q0, rfl, _, _, _, e0⟩ := hp
  obtain ⟨c1, z1, l1, cap1, q1, rfl, _, _, _, e1⟩ := hp2
  rw [p0] at q0
  rw [p1] at q1
  cases q0
  cases q1
  have el0 : l0 = g.length := by rw [hna] at e0; omega
  have el1 : l1 = g.length := by rw [hnb] at e1; omega
  have hargs2 : args' = #[.slice (some ⟨b0, 0, none⟩) l0 cap0, .slice (some ⟨b1, 0, none⟩) l1 cap1] := by
    apply Array.ext'
    rw [hy]
  subst hargs2
  have s0' := src_ints (c := cap0) t0 hLa el0 hO List.mem_cons_self
  have s1' := src_ints (c := cap1) t1 hLb el1 hO (List.mem_cons_of_mem _ List.mem_cons_self)
  refine (eqInts_yes s0' s1' hl rfl hO).mono ?_
  rintro e w' ⟨rfl, h'⟩
  refine ⟨_, [], [(b0, o0), (b1, o1)], rfl, h', rfl, rfl, fun ρ' hk _ => ⟨by unfold VR; rfl, fun i t d hi => by simp at hi, fun p hp => ?_⟩⟩
  simp only [List.mem_cons, List.not_mem_nil, or_false] at hp
  rcases hp with rfl | rfl
  · exact ⟨b0, o0, s0, by simp, p0, t0⟩
  · exact ⟨b1, o1, s1, by simp, p1, t1⟩
end
end Go.Proofs.Ytmfemophafncnaa.Ex

/-
  Readings out of numbers and lists: what expressions say under them; when two agree. No condition.
-/
namespace Go.Proofs.Ytmfemophafncnaa.Ex
open Go
/-- numbers, each a record -/
def one (L : List Int) : List (List Int) := L.map fun x => [x]
theorem one_len (L : List Int) : (one L).length = L.length := by simp [one]
theorem one_at (L : List Int) (e j : Nat) : (((one L)[e]?).getD [])[j]?.getD 0 = if j = 0 then L.getD e 0 else 0 := by
  unfold one
  rw [List.getElem?_map, List.getD_eq_getElem?_getD]
  cases h : L[e]? with
  | none => cases j <;> simp
  | some x => cases j <;> simp
/-- a list, record by record, is what an expression says -/
structure LsRec (σ : Nat → Int) (L : SE) (g : List (List Int)) : Prop where
  len : L.evN σ = g.length
  at_ : ∀ e j, j < 64 → L.evA σ e j = ((g[e]?).getD [])[j]?.getD 0
section
variable {v v' : Nat → Int} {l l' : Nat → List (List Int)} {σ : Nat → Int} {g : List Int} {L : SE}
theorem sg_one {q e : Nat} {L : List Int} (hq : q < 64) (h : l q = one L) : sg v l (lc q e 0) = L.getD e 0 := by
  rw [sg_lc hq (by omega), h]
  exact (one_at L e 0).trans (if_pos rfl)
theorem sg_oneN {q : Nat} {L : List Int} (hq : q < 64) (h : l q = one L) : sg v l (ln q) = (L.length : Int) := by rw [sg_ln hq, h, one_len]
theorem ls_sg {q : Nat} {L : List Int} (hq : q < 64) (h : l q = one L) : LsVal (sg v l) q L :=
  ⟨by rw [sg_oneN hq h, Int.toNat_natCast], fun i x hx => by rw [sg_one hq h, List.getD_eq_getElem?_getD, hx]; rfl⟩
theorem LsRec.is (h : LsRec σ L (one g)) : LsIs σ L g :=
  ⟨by rw [h.len, one_len], fun i x hx => by rw [h.at_ i 0 (by omega), one_at, if_pos rfl, List.getD_eq_getElem?_getD, hx]; rfl⟩
theorem LsRec.var {q : Nat} (hq : q < 64) : LsRec (sg v l) (.lvar q) (l q) :=
  ⟨by simp only [SE.evN]; rw [sg_ln hq, Int.toNat_natCast], fun e j hj => by simp only [SE.evA]; rw [sg_lc hq hj]⟩
theorem LsRec.var' {q : Nat} {g : List (List Int)} (hq : q < 64) (h : l q = g) : LsRec (sg v l) (.lvar q) g := h ▸ LsRec.var hq
theorem LsRec.set {e x : SE} {i : Nat} {y : Int} (h : LsRec σ L (one g)) (he : e.ev σ = (i : Int)) (hx : x.ev σ = y) (hi : i < g.length) : LsRec σ (.lset L e 0 x) (one (g.set i y)) := by
  refine ⟨by simp only [SE.evN, h.len, one_len, List.length_set], fun a j hj => ?_⟩
  simp only [SE.evA, he, hx, Int.toNat_natCast]
  rw [one_at, h.at_ a j hj, one_at, List.getD_eq_getElem?_getD, List.getD_eq_getElem?_getD, List.getElem?_set]
  by_cases hj0 : j = 0
  · by_cases ha : a = i
    · subst ha
      rw [if_pos ⟨rfl, hj0⟩, if_pos hj0, if_pos rfl, if_pos hi]
      rfl
    · rw [if_neg (show ¬ (a = i ∧ j = 0) from fun h => ha h.1), if_neg (show ¬ i = a from fun h => ha h.symm)]
  · rw [if_neg (fun h => hj0 h.2), if_neg hj0, if_neg hj0]
theorem LsRec.nil : LsRec σ .rnil (one []) := ⟨rfl, fun e j _ => by simp [SE.evA, one]⟩
theorem LsRec.snoc {x : SE} {y : Int} (h : LsRec σ L (one g)) (hx : x.ev σ = y) : LsRec σ (.lsnoc L (.rcons x .rnil)) (one (g ++ [y])) := by
  refine ⟨by simp only [SE.evN, h.len, one_len, List.length_append, List.length_cons, List.length_nil], fun a j hj => ?_⟩
  simp only [SE.evA, h.len, one_len]
  rw [one_at]
  by_cases ha : a = g.length
  · subst ha
    rw [if_pos rfl]
    cases j with
    | zero => simp only [if_true, hx]; rw [List.getD_eq_getElem?_getD, List.getElem?_append_right (by omega)]; simp
    | succ j => rw [if_neg (by omega)]
  · rw [if_neg ha, h.at_ a j hj, one_at]
    by_cases hj0 : j = 0
    · rw [if_pos hj0, if_pos hj0, List.getD_eq_getElem?_getD, List.getD_eq_getElem?_getD]
      by_cases hlt : a < g.length
      · rw [List.getElem?_append_left hlt]
      · rw [List.getElem?_eq_none (by omega), List.getElem?_eq_none (by simp; omega)]
    · rw [if_neg hj0, if_neg hj0]
/-- two readings agree, number by number and list by list -/
theorem agree_sg {θ : Sub} {B : Bd} {ro : Nat → Option (Option Addr × Nat × Nat)} {Ω Ω' : Nat → Nat → Nat → Obj → Prop} (hro : ∀ i, ro i = none) (hk : B.k ≤ 2048) (hkl : B.kl ≤ 64) (hko : B.ko = 0)
    (hv : ∀ i, i < B.k → v' i = (θ.vAt i).ev σ) (hl : ∀ i, i < B.kl → LsRec σ (θ.lAt i) (l' i)) : AgreeD θ B ro σ Ω (sg v' l') Ω' := by
  refine ⟨fun i hi => ?_, fun i hi => ?_, fun i hi e j hj => ?_, fun i hi => ?_, fun i p hp => ?_⟩
  · rw [sg_v (by omega)]
    exact hv i hi
  · rw [sg_ln (by omega), Int.toNat_natCast]
    exact (hl i hi).len.symm
  · rw [sg_lc (by omega) hj]
    exact ((hl i hi).at_ e j hj).symm
  · rw [hko] at hi; omega
  · rw [hro] at hp; cases hp
/-- .. also when there are read-only slices -/
theorem agree_sgR {θ : Sub} {B : Bd} {ro : Nat → Option (Option Addr × Nat × Nat)} {Ω Ω' : Nat → Nat → Nat → Obj → Prop} (hro : ∀ i p, ro i = some p → i < 64 ∧ LsRec σ (.lvar i) (l' i)) (hk : B.k ≤ 2048) (hkl : B.kl ≤ 64) (hko : B.ko = 0)
    (hv : ∀ i, i < B.k → v' i = (θ.vAt i).ev σ) (hl : ∀ i, i < B.kl → LsRec σ (θ.lAt i) (l' i)) : AgreeD θ B ro σ Ω (sg v' l') Ω' := by
  refine ⟨fun i hi => ?_, fun i hi => ?_, fun i hi e j hj => ?_, fun i hi => ?_, fun i p hp => ?_⟩
  · rw [sg_v (by omega)]
    exact hv i hi
  · rw [sg_ln (by omega), Int.toNat_natCast]
    exact (hl i hi).len.symm
  · rw [sg_lc (by omega) hj]
    exact ((hl i hi).at_ e j hj).symm
  · rw [hko] at hi; omega
  · obtain ⟨h1, h2⟩ := hro i p hp
    refine ⟨?_, fun e => ?_⟩
    · rw [sg_ln h1, Int.toNat_natCast]
      exact h2.len.symm
    · rw [sg_lc h1 (by omega)]
      exact (h2.at_ e 0 (by omega)).symm
/-- .. nothing is put in place of others but some numbers and lists -/
theorem vAt_nil {θ : Sub} (h : θ.v = []) (i : Nat) : θ.vAt i = .var i := by unfold Sub.vAt; rw [h]; rfl
theorem lAt_nil {θ : Sub} (h : θ.l = []) (i : Nat) : θ.lAt i = .lvar i := by unfold Sub.lAt; rw [h]; rfl
theorem lookS_ne {i j : Nat} {e : SE} {r : List (Nat × SE)} (h : j ≠ i) : lookS i ((j, e) :: r) = lookS i r := by
  have : Nat.beq j i = false := by
    cases hb : Nat.beq j i with
    | false => rfl
    | true => exact absurd (Nat.eq_of_beq_eq_true hb) h
  rw [lookS, this]
theorem lookS_eq {i : Nat} {e : SE} {r : List (Nat × SE)} : lookS i ((i, e) :: r) = some e := by
  have : Nat.beq i i = true := Nat.beq_refl i
  rw [lookS, this]
theorem vAt_ne {θ : Sub} {j : Nat} {e : SE} {r : List (Nat × SE)} (h : θ.v = (j, e) :: r) {i : Nat} (hij : j ≠ i) : θ.vAt i = ({ v := r } : Sub).vAt i := by
  unfold Sub.vAt
  rw [h, lookS_ne hij]
theorem lAt_ne {θ : Sub} {j : Nat} {e : SE} {r : List (Nat × SE)} (h : θ.l = (j, e) :: r) {i : Nat} (hij : j ≠ i) : θ.lAt i = ({ l := r } : Sub).lAt i := by
  unfold Sub.lAt
  rw [h, lookS_ne hij]
end
/-- a text's run looks at the blocks alone -/
theorem treeC_h {P : Program} {gs : List (Nat × List Int)} {rks : List (Nat × CK)} {kcs : Kg} {lns : List Ln} {n : Nat} {f : FuncId} {args : List AV} {t t' : Tm} (h : t.h = t'.h) : ∀ (d : CT) (fs : List (Cnd × Bool)), treeC P gs rks kcs lns n f args t d fs = treeC P gs rks kcs lns n f args t' d fs
  | .is v post, fs => by unfold treeC; rw [h]
  | .bad, fs => rfl
  | .node q a b, fs => by unfold treeC; rw [treeC_h h a, treeC_h h b]
theorem i64_small {x : Int} (h0 : -9223372036854775808 ≤ x) (h1 : x < 9223372036854775808) : IntKind.i64.wrap x = x := by
  rw [IntKind.wrap_i64]
  omega
theorem u64_small {x : Int} (h0 : 0 ≤ x) (h1 : x < 18446744073709551616) : IntKind.u64.wrap x = x := by
  rw [IntKind.wrap_u64]
  omega
end Go.Proofs.Ytmfemophafncnaa.Ex

/-
  wainscotlaw25.FlushTrims: what is known of its calls. No condition.
-/
namespace Go.Proofs.Ytmfemophafncnaa.Ft
open Go Ex Mem See Fast
open Go.RowKit
theorem fn_headF : FnOk Try.prog 20 := ⟨Try.f20, _, Try.func20, by kernel_rfl, rfl⟩
theorem fn_partF : FnOk Try.prog 24 := ⟨Try.f24, _, Try.func24, by kernel_rfl, rfl⟩
theorem fn_works : FnOk Try.prog 12 := ⟨Try.f12, _, Try.func12, by kernel_rfl, rfl⟩
theorem shAV_eq (e : Bool) (nm q : Nat) : shAV e nm q = lsAV e nm q := by cases e <;> rfl
theorem shTB_eq (e : Bool) (q : Nat) : shTB e q = lsTB e q := by cases e <;> rfl
theorem one1_eq (e : Bool) : one1 e = cn e := by cases e <;> rfl
theorem slotX_eq : ∀ n b, slotX n b = slotL n b
  | 0, _ => rfl
  | n + 1, b => by rw [slotX, slotL, slotX_eq n]
theorem slabX_eq : ∀ n b, slabX n b = slabL n b
  | 0, _ => rfl
  | n + 1, b => by rw [slabX, slabL, slabX_eq n]
/-- what numbers must be -/
def SeeValX (σ : Nat → Int) (K : CoreP) (n : Nat) (e : Bool) (b q : Nat) : Prop :=
  SlotValL σ K.slots n b ∧ (e = K.shelf.isEmpty ∧ LsVal σ q K.shelf ∧ K.locked = !(σ (b + 4 * n + 1) == 0)) ∧ SlabValL σ K.slabs 8 (b + 4 * n + 2) ∧ 0 < n
section
variable [Nums]
variable {c : Ch} {g : List Nat} {K : CoreP} {n b q qW nW : Nat} {e : Bool}
theorem kc_seeX {d e' : Int} (hnW : nW < rel) (hch : Ex.valOf Nums.σ (.agg (chL n)) = cV c d e') (hc : COk c d e') (hgw : W64 g) (hgl : g.length = c.words) (hgv : LsVal Nums.σ qW (g.map fun (x : Nat) => (x : Int)))
    (hK : seeP c g = some K) (hv : SeeValX Nums.σ K n e b q) : KcOk Try.prog (kcSeeX nW qW n e b q) := by
  refine kc_own fn_see (by intro p hp; cases hp) (by intro p hp; simp only [kcSeeX, List.mem_cons, List.not_mem_nil, or_false] at hp; subst hp; exact hnW) fun _ ρ W w m args' bs hF ha hO => ?_
  obtain ⟨bw, ow, sw, r, rfl, pw, tw, rfl⟩ := hF
  obtain ⟨y, y2, hy, hp, hch2⟩ := VRs.two ha
  unfold VR at hp
  obtain ⟨bw', zw, len, cap, pw', rfl, hlc, hcm, hz, hlen⟩ := hp
  rw [pw] at pw'
  cases pw'
  have hch3 := VR.shut hch2 rfl
  rw [hch] at hch3
  subst hch3
  obtain ⟨cur, hcur, hsz, hle, hat⟩ := tw
  simp only [Option.some.injEq] at hcur
  subst hcur
  simp only [SE.ev, SE.evN, hgv.1, List.length_map] at hlen hle hat
  have hlen : len = g.length := by omega
  subst hlen
  have hargs2 : args' = #[.slice (some ⟨bw, 0, none⟩) g.length cap, cV c d e'] := by
    apply Array.ext'
    rw [hy]
  subst hargs2
  have hrd : Rd W ((bw, .cells cur 26) :: m) bw 0 g := fun ws hws j x hj => by
    have hjl := (List.getElem?_eq_some_iff.1 hj).1
    rw [hws.cell List.mem_cons_self]
    have := hat j 0 (.int .u64) hjl rfl
    simp only [List.length_cons, List.length_nil, Nat.zero_add, Nat.mul_one, Nat.add_zero, SE.evA] at this
    rw [Nat.zero_add, this, hgv.2 j (x : Int) (by simp [hj])]
    rfl
  refine (see_spec (W := W) (m := (bw, .cells cur 26) :: m) hO hc ⟨hrd, rfl, hgl, hgw, hlc, hcm⟩).mono ?_
  rintro e' w' hpost
  rw [hK] at hpost
  obtain ⟨v, bs, rfl, hCo, hO2⟩ := hpost
  obtain ⟨Ls, sv, b0, hv0, b1, Ll, lv, b2, rfl, hLs, hso, hsv, hsh1, hLl, hlo, hlv, rfl⟩ := hCo.out
  obtain ⟨v1, ⟨v2, v3, v4⟩, v5, v6⟩ := hv
  rw [← hLs] at v1
  rw [← hLl] at v5
  have n1 : Ls.length = n := by have := slotL_len v1; rwa [List.length_map] at this
  have n2 : Ll.length = 8 := by have := slabL_len v5; rwa [List.length_map] at this
  obtain ⟨dd0, rfl, r0⟩ := row_own hsv (by omega)
  obtain ⟨dd2, rfl, r2⟩ := row_own hlv (by omega)
  obtain ⟨ds2, sb2, l2, k2⟩ := ls_own hsh1 v2
  refine ⟨_, [dd0] ++ (ds2 ++ [dd2]), [(bw, .cells cur 26)], rfl, ?_, rfl, ?_, fun ρ' hk hd => ?_⟩
  · refine hO2.sub ?_
    exact ((List.Sublist.refl [dd0]).append ((List.nil_sublist _).append (sb2.append ((List.Sublist.refl [dd2]).append (List.nil_sublist _))))).append (List.Sublist.refl _)
  · simp only [kcSeeX, List.length_append, List.length_cons, List.length_nil, shTB_eq, l2]
    cases e <;> rfl
  · have hN : NamedAt ρ' rel ([dd0] ++ (ds2 ++ [dd2])) := hd
    have a0 : ρ' rel = some (dd0.1, objSize dd0.2) := hN 0 _ rfl
    have h1 := hN.right
    have h2 := h1.right
    simp only [List.length_cons, List.length_nil, Nat.zero_add, l2] at h1 h2
    obtain ⟨x1, x3⟩ := slotsL_own (ρ := ρ') hso v1
    obtain ⟨x4, x5⟩ := k2 ρ' (rel + 1) q h1.left v3
    have a2 : ρ' (rel + 1 + cn e) = some (dd2.1, objSize dd2.2) := by
      have := h2 0 _ rfl
      rwa [Nat.add_zero] at this
    obtain ⟨x6, x8⟩ := slabsL_own (ρ := ρ') hlo v5
    obtain ⟨y1, y2⟩ := r0 ρ' rel _ a0 x1 x3
    obtain ⟨y3, y4⟩ := r2 ρ' (rel + 1 + cn e) _ a2 x6 x8
    rw [n1] at y1
    rw [n2] at y3
    refine ⟨?_, fun i t d hi hd2 => ?_, fun p hp => by cases hp⟩
    · show VR ρ' (.tup [.agg (coreX n e rel b q), .int .i64 0]) _
      unfold VR
      refine ⟨_, rfl, VRs.cons ?_ (VRs.cons (by unfold VR; rfl) VRs.nil)⟩
      unfold coreX VR
      refine ⟨_, rfl, VRs.cons y1 (VRs.cons (by rw [shAV_eq]; exact x4) (VRs.cons ?_ (VRs.cons (by rw [one1_eq]; exact y3) VRs.nil)))⟩
      unfold VR
      simp only [Cnd.ev, SE.ev, v4]
      cases (Nums.σ (b + 4 * n + 1) == 0) <;> rfl
    · have hall : AllTR ρ' (kcSeeX nW qW n e b q).news ([dd0] ++ (ds2 ++ [dd2])) := by
        unfold kcSeeX
        simp only [slotX_eq, slabX_eq, shTB_eq]
        have h7 : AllTR ρ' [TB.cells (slabL 8 (b + 4 * n + 2)) 50] [dd2] := ⟨y4, trivial⟩
        rw [List.append_assoc]
        refine ⟨y2, ?_⟩
        show AllTR ρ' (lsTB e q ++ [TB.cells (slabL 8 (b + 4 * n + 2)) 50]) (ds2 ++ [dd2])
        exact AllTR.append (x := ds2) (y := [dd2]) x5 h7
      exact hall.get i t d hi hd2
/-- count.Head -/
theorem kc_headF {s o : SE} {r : Nat} {x y : Int} (hs : s.ev Nums.σ = x) (ho : o.ev Nums.σ = y) (h : headOk x y) (hr : Nums.σ r = (headW x y : Nat)) : KcOk Try.prog { f := 20, args := [.sym .i64 s, .sym .i64 o], res := .tup [.sym .u64 (.var r), .int .i64 0] } := by
  refine kc_pure rfl rfl rfl rfl rfl fn_headF fun _ W w m hO => ?_
  rw [show (valsOf Nums.σ [.sym .i64 s, .sym .i64 o]).toArray = #[.int .i64 x, .int .i64 y] from by simp only [valsOf, Ex.valOf, hs, ho]]
  refine (head_ok x y h w).mono ?_
  rintro e w' ⟨rfl, rfl⟩
  refine ⟨?_, hO⟩
  simp only [Ex.valOf, valsOf, SE.ev, hr]
/-- count.Part -/
theorem kc_partF {s o : SE} {r : Nat} {x y : Int} (hs : s.ev Nums.σ = x) (ho : o.ev Nums.σ = y) (h : partOk x y) (hr : Nums.σ r = (partW x y : Nat)) : KcOk Try.prog { f := 24, args := [.sym .i64 s, .sym .i64 o], res := .tup [.sym .u64 (.var r), .int .i64 0] } := by
  refine kc_pure rfl rfl rfl rfl rfl fn_partF fun _ W w m hO => ?_
  rw [show (valsOf Nums.σ [.sym .i64 s, .sym .i64 o]).toArray = #[.int .i64 x, .int .i64 y] from by simp only [valsOf, Ex.valOf, hs, ho]]
  refine (part_ok x y h w).mono ?_
  rintro e w' ⟨rfl, rfl⟩
  refine ⟨?_, hO⟩
  simp only [Ex.valOf, valsOf, SE.ev, hr]
/-- count.PartOf -/
theorem kc_partOf {N : SE} {r1 r2 w0 : Nat} {x y : Int} (h : N.ev Nums.σ = (w0 : Int)) (hw : w0 < 18446744073709551616) (hp : partOf w0 = some (x, y)) (h1 : Nums.σ r1 = x) (h2 : Nums.σ r2 = y) : KcOk Try.prog { f := 23, args := [.sym .u64 N], res := .tup [.sym .i64 (.var r1), .sym .i64 (.var r2), .bool true] } := by
  refine kc_pure rfl rfl rfl rfl rfl fn_partOf fun _ W w m hO => ?_
  rw [show (valsOf Nums.σ [.sym .u64 N]).toArray = #[.int .u64 (w0 : Int)] from by simp only [valsOf, Ex.valOf, h]]
  refine (partOf_spec w0 hw w).mono ?_
  rintro e w' ⟨rfl, rfl⟩
  refine ⟨?_, hO⟩
  simp only [Ex.valOf, valsOf, SE.ev, h1, h2, partV, hp]
/-- count.Counts -/
theorem kc_countsG {N : SE} {r1 r2 r3 w0 : Nat} {k : CountsP} (h : N.ev Nums.σ = (w0 : Int)) (hw : w0 < 18446744073709551616) (hc : countsOf w0 = some k) (hl : k.live = true) (h1 : Nums.σ r1 = k.inuse) (h2 : Nums.σ r2 = k.objects) (h3 : k.frozen = !(Nums.σ r3 == 0)) : KcOk Try.prog { f := 57, args := [.sym .u64 N], res := .tup [.agg [.sym .i64 (.var r1), .sym .i64 (.var r2), .bsym (.eq (.var r3) (.lit 0)) false, .bool true], .bool true] } := by
  refine kc_pure rfl rfl rfl rfl rfl fn_counts fun _ W w m hO => ?_
  rw [show (valsOf Nums.σ [.sym .u64 N]).toArray = #[.int .u64 (w0 : Int)] from by simp only [valsOf, Ex.valOf, h]]
  refine (counts_spec hO w0 hw).mono ?_
  rintro e w' ⟨rfl, h'⟩
  refine ⟨?_, h'⟩
  simp only [Ex.valOf, valsOf, SE.ev, h1, h2, countsV, hc, hl, h3, Cnd.ev]
  cases (Nums.σ r3 == 0) <;> rfl
end
theorem yes_works : Ex.yes Try.prog 30 12 = true := by kernel_rfl
theorem works_in {W w : World} {m : List (Nat × Obj)} (h : Own W m w) : Calls Try.prog 12 #[] w fun e w' => e = .returned (.bool true) ∧ Own W m w' := Ex.yes_in yes_works h
end Go.Proofs.Ytmfemophafncnaa.Ft

/-
  Lists of free objects, and words that are set: plain. No condition.
-/
namespace Go.Proofs.Ytmfemophafncnaa.Back
open See Fast
/-- a list's first one, -1 if there is none -/
def fst (L : List Int) : Int := L.headD (-1)
theorem fst_in {L : List Int} {O : Nat} (h : ∀ x ∈ L, 0 ≤ x ∧ x < (O : Int)) : -1 ≤ fst L ∧ fst L < O := by
  cases L with
  | nil => exact ⟨by decide, by show (-1 : Int) < O; omega⟩
  | cons x L =>
    have := h x List.mem_cons_self
    exact ⟨by show (-1 : Int) ≤ x; omega, by show x < (O : Int); omega⟩
theorem at_set_self {g : List Nat} {i w : Nat} (h : i < g.length) : at_ (g.set i w) i = w := by
  unfold at_
  rw [List.getD_eq_getElem?_getD, List.getElem?_set_self h]
  rfl
theorem at_set_ne {g : List Nat} {i j w : Nat} (h : i ≠ j) : at_ (g.set i w) j = at_ g j := by
  unfold at_
  rw [List.getD_eq_getElem?_getD, List.getD_eq_getElem?_getD, List.getElem?_set_ne h]
theorem at_set {g : List Nat} {i w : Nat} (h : i < g.length) (j : Nat) : at_ (g.set i w) j = if j = i then w else at_ g j := by
  by_cases hj : j = i
  · subst hj
    rw [if_pos rfl, at_set_self h]
  · rw [if_neg hj, at_set_ne (fun h => hj h.symm)]
theorem w64_set {g : List Nat} {i w : Nat} (h : W64 g) (hw : w < 18446744073709551616) : W64 (g.set i w) := fun x hx => by
  rcases List.mem_or_eq_of_mem_set hx with hx | rfl
  · exact h x hx
  · exact hw
theorem w64_at {g : List Nat} (h : W64 g) (i : Nat) : at_ g i < 18446744073709551616 := by
  unfold at_
  rw [List.getD_eq_getElem?_getD]
  cases hr : g[i]? with
  | none => show 0 < _; omega
  | some x => exact h x (List.mem_of_getElem? hr)
theorem at_get {g : List Nat} {i : Nat} (h : i < g.length) : g[i]? = some (at_ g i) := by
  unfold at_
  rw [List.getD_eq_getElem?_getD, List.getElem?_eq_getElem h]
  rfl
/-- the numbers from one up to below another -/
def upL (k i : Nat) : List Int := (List.range' i (k - i)).map fun (n : Nat) => (n : Int)
theorem upL_cons {k i : Nat} (h : i < k) : upL k i = (i : Int) :: upL k (i + 1) := by
  unfold upL
  rw [show k - i = (k - (i + 1)) + 1 from by omega, List.range'_succ]
  rfl
theorem upL_nil {k i : Nat} (h : k ≤ i) : upL k i = [] := by
  unfold upL
  rw [show k - i = 0 from by omega]
  rfl
theorem upL_len (k i : Nat) : (upL k i).length = k - i := by simp [upL]
theorem mem_upL {k i : Nat} {x : Int} : x ∈ upL k i ↔ (i : Int) ≤ x ∧ x < k := by
  unfold upL
  rw [List.mem_map]
  constructor
  · rintro ⟨n, hn, rfl⟩
    rw [List.mem_range'_1] at hn
    omega
  · intro h
    exact ⟨x.toNat, by rw [List.mem_range'_1]; omega, by omega⟩
theorem fst_upL {k i : Nat} : fst (upL k i) = if i < k then (i : Int) else -1 := by
  by_cases h : i < k
  · rw [upL_cons h, if_pos h]; rfl
  · rw [upL_nil (by omega), if_neg h]; rfl
theorem upL_nodup (k i : Nat) : (upL k i).Nodup := by
  unfold upL
  refine List.Pairwise.map _ (fun a b h => ?_) (List.nodup_range' (s := i) (n := k - i) (step := 1))
  intro he
  exact h (by omega)
theorem upL_get {k i j : Nat} (h : i + j < k) : (upL k i)[j]? = some ((i + j : Nat) : Int) := by
  unfold upL
  rw [List.getElem?_map, List.getElem?_range' (by omega)]
  simp
theorem packN_lt {A B : Nat} {f l : Bool} (h : A ≤ 16) (h2 : B ≤ 16) : packN A B f l < 18446744073709551616 := by
  unfold packN
  split <;> split <;> omega
theorem countsOf_pack {A B : Nat} {fz : Bool} (h1 : A ≤ B) (h2 : 1 ≤ B) (h3 : B ≤ 16) : countsOf (packN A B fz true) = some ⟨A, B, fz, true⟩ := by
  have key : ∀ B : Fin 17, ∀ A : Fin 17, ∀ fz : Bool, 1 ≤ B.val → A.val ≤ B.val → countsOf (packN A.val B.val fz true) = some ⟨A.val, B.val, fz, true⟩ := by decide
  exact key ⟨B, by omega⟩ ⟨A, by omega⟩ fz h2 h1
end Go.Proofs.Ytmfemophafncnaa.Back

/-
  One processor, two slabs, of which the second one has a list: what such words say. Plain. No condition.
-/
namespace Go.Proofs.Ytmfemophafncnaa.Back
open See Fast
/-- each object's word shows the next one; its words begin at a place -/
def LkB (g : List Nat) (b key : Nat) : List Int → Prop
  | [] => True
  | x :: L => showOf (at_ g (b + x.toNat)) key x.toNat = some (fst L) ∧ LkB g b key L
theorem LkB.far {g g' : List Nat} {b key : Nat} {L : List Int} (h : LkB g b key L) (hd : ∀ x ∈ L, at_ g' (b + x.toNat) = at_ g (b + x.toNat)) : LkB g' b key L := by
  induction L with
  | nil => trivial
  | cons x L ih =>
    refine ⟨?_, ih h.2 fun y hy => hd y (List.mem_cons_of_mem _ hy)⟩
    rw [hd x List.mem_cons_self]
    exact h.1
abbrev c2 (k key : Nat) : Ch := ⟨1, 2, k, key⟩
structure Slabbed (k key : Nat) (g : List Nat) (L : List Int) (n : CountsP) (P S : List Int) (lk : Bool) : Prop where
  len : g.length = 16 + 2 * k
  w64 : W64 g
  h0 : at_ g 0 = 0
  parts : partsP (c2 k key) g (at_ g 2) = some P
  shelf : shelfP (c2 k key) g = some S
  lock : decide (at_ g 4 ≠ 0) = lk
  f0 : at_ g 8 = 0
  k0 : at_ g 9 = 0
  f1 : ((at_ g 12 : Nat) : Int) = fst L + 1
  k1 : countsOf (at_ g 13) = some n
  nd : L.Nodup
  bd : ∀ x ∈ L, 0 ≤ x ∧ x < (k : Int)
  lk1 : LkB g (16 + k) (See.keyOf key 1) L
section
variable {k key : Nat} {g : List Nat} {L P S : List Int} {n : CountsP} {lk : Bool}
theorem walk_listB {b O : Nat} (hb : ∀ x ∈ L, 0 ≤ x ∧ x < (O : Int)) (hlk : LkB g b key L) (hg : b + O ≤ g.length) : ∀ (n : Nat) (out : List Int), (out ++ L).Nodup → L.length < n →
    See.walk (fun w o => showOf w key o.toNat) ((g.drop b).take O) n out (fst L) = some (out ++ L) := by
  have hl : ((g.drop b).take O).length = O := by simp; omega
  induction L with
  | nil =>
    intro n out _ hn
    cases n with
    | zero => simp at hn
    | succ n => simp [See.walk, fst]
  | cons x L ih =>
    intro n out hnd hn
    have hx := hb x List.mem_cons_self
    cases n with
    | zero => simp at hn
    | succ n =>
      have h1 : x ≠ -1 := by omega
      have h2 : x ∉ out := fun hm => by
        rw [List.nodup_append] at hnd
        exact hnd.2.2 x hm x List.mem_cons_self rfl
      have h3 : ((g.drop b).take O).getD x.toNat 0 = at_ g (b + x.toNat) := by
        unfold at_
        rw [List.getD_eq_getElem?_getD, List.getElem?_take, if_pos (by omega)]
        simp [List.getD_eq_getElem?_getD]
      have h4 := fst_in fun y hy => hb y (List.mem_cons_of_mem _ hy)
      rw [show fst (x :: L) = x from rfl]
      unfold See.walk
      rw [if_neg h1, if_neg h2, h3, hlk.1]
      simp only
      rw [if_neg (by rw [hl]; unfold fst; unfold fst at h4; omega)]
      have h5 := ih (fun y hy => hb y (List.mem_cons_of_mem _ hy)) hlk.2 n (out ++ [x]) (by simpa using hnd) (by simp at hn; omega)
      rw [List.append_assoc] at h5
      exact h5
theorem Slabbed.see (h : Slabbed k key g L n P S lk) (h1 : 1 ≤ k) : seeP (c2 k key) g = some ⟨[⟨-1, [], at_ g 1, P⟩], S, lk, [⟨⟨0, 0, false, false⟩, []⟩, ⟨n, L⟩]⟩ := by
  have hlen := h.len
  have hf := fst_in h.bd
  have hcard : L.length < (c2 k key).O + 1 := by
    have := few h.nd h.bd
    show L.length < k + 1
    omega
  have hl1 : listP (c2 k key) g (1 : Nat) (fst L) = some L := by
    unfold listP
    rw [if_pos (by refine ⟨by omega, by show ((1 : Nat) : Int) < ((2 : Nat) : Int); omega, hf.1, hf.2⟩)]
    have hb : 4 * (c2 k key).C + 4 + 4 * (c2 k key).S + 1 * (c2 k key).O = 16 + k := by show 4 * 1 + 4 + 4 * 2 + 1 * k = 16 + k; omega
    show See.walk _ (See.links (c2 k key) g 1) _ [] _ = _
    unfold See.links
    rw [hb]
    have := walk_listB (O := k) h.bd h.lk1 (by omega) ((c2 k key).O + 1) [] (by simpa using h.nd) hcard
    rw [List.nil_append] at this
    exact this
  have hl0 : listP (c2 k key) g (0 : Nat) (-1) = some [] := by
    unfold listP
    rw [if_pos (by refine ⟨by omega, by show ((0 : Nat) : Int) < ((2 : Nat) : Int); omega, by omega, by show (-1 : Int) < ((k : Nat) : Int); omega⟩)]
    simp [See.walk]
  have hslot : slotP (c2 k key) g 0 = some ⟨-1, [], at_ g 1, P⟩ := by
    unfold slotP
    rw [show 4 * 0 = 0 from rfl, h.h0, show headOf 0 = some (-1, -1) from rfl]
    simp only [if_true]
    rw [show 0 + 2 = 2 from rfl, h.parts]
  have hs0 : slabP (c2 k key) g 0 = some ⟨⟨0, 0, false, false⟩, []⟩ := by
    unfold slabP
    rw [show 4 * (c2 k key).C + 4 + 4 * 0 + 1 = 9 from rfl, show 4 * (c2 k key).C + 4 + 4 * 0 = 8 from rfl, h.k0, show countsOf 0 = some ⟨0, 0, false, false⟩ from rfl, h.f0]
    simp only
    rw [if_neg (by omega), show ((0 : Nat) : Int) - 1 = -1 from rfl, hl0]
  have hs1 : slabP (c2 k key) g 1 = some ⟨n, L⟩ := by
    unfold slabP
    rw [show 4 * (c2 k key).C + 4 + 4 * 1 + 1 = 13 from rfl, show 4 * (c2 k key).C + 4 + 4 * 1 = 12 from rfl, h.k1]
    simp only
    rw [h.f1, if_neg (show ¬ (c2 k key).O < at_ g 12 from by have := h.f1; show ¬ k < _; omega), show fst L + 1 - 1 = fst L from by omega, hl1]
  unfold seeP
  rw [show (c2 k key).C = 0 + 1 from rfl, show (c2 k key).S = 0 + 1 + 1 from rfl]
  unfold upto upto upto
  rw [hslot, hs0, hs1]
  simp only
  rw [h.shelf]
  simp only [List.nil_append, List.cons_append]
  rw [show 4 * (0 + 1) = 4 from rfl, h.lock]
/-- what the second slab's links show when they are as Fresh laid them -/
theorem fresh_lkB {b n : Nat} (hn : n ≤ 16) (hg : ∀ i, i < n → at_ g (b + i) = if i + 1 = n then hideW (-1) key i else hideW ((i : Int) + 1) key i) :
    ∀ d i, n - i = d → LkB g b key (upL n i) := by
  intro d
  induction d with
  | zero =>
    intro i hi
    rw [upL_nil (by omega)]
    trivial
  | succ d ih =>
    intro i hi
    rw [upL_cons (by omega)]
    refine ⟨?_, ih (i + 1) (by omega)⟩
    rw [show ((i : Int)).toNat = i from by omega, hg i (by omega), fst_upL]
    by_cases h1 : i + 1 = n
    · rw [if_pos h1, if_neg (by omega)]
      exact show_hide (by omega) (by omega)
    · rw [if_neg h1, if_pos (by omega)]
      exact show_hide (by omega) (by omega)
end
/-! the words that slabbed lays -/
/-- the links, the first i of them -/
def lkI (k a key1 i : Nat) : List Nat := List.replicate (16 + k) 0 ++ (List.range k).map fun j => if j < i then (freshL (max a 1) key1).getD j 0 else 0
/-- z: no list; sh: it is on the shelf; P: its counts -/
def slG (k a key1 P : Nat) (sh : Bool) : List Nat :=
  let g0 := lkI k a key1 a
  let g1 := if a = 0 then g0 else g0.set 12 1
  let g2 := g1.set 13 P
  if sh then (g2.set 5 2).set 6 1 else g2
section
variable {k a key1 P : Nat} {sh : Bool}
theorem lkI_len (i : Nat) : (lkI k a key1 i).length = 16 + 2 * k := by
  simp [lkI]
  omega
theorem lkI_zero : lkI k a key1 0 = List.replicate (16 + 2 * k) 0 := by
  unfold lkI
  rw [show (List.range k).map (fun j => if j < 0 then (freshL (max a 1) key1).getD j 0 else 0) = List.replicate k 0 from by
    apply List.ext_getElem?
    intro j
    simp [List.getElem?_replicate]
    by_cases h : j < k <;> simp [h]]
  rw [List.replicate_append_replicate]
  congr 1
  omega
theorem lkI_low {i j : Nat} (h : j < 16 + k) : at_ (lkI k a key1 i) j = 0 := by
  unfold lkI at_
  rw [List.getD_eq_getElem?_getD, List.getElem?_append_left (by simpa using h), List.getElem?_replicate, if_pos h]
  rfl
theorem lkI_high {i j : Nat} (h : j < k) : at_ (lkI k a key1 i) (16 + k + j) = if j < i then (freshL (max a 1) key1).getD j 0 else 0 := by
  unfold lkI at_
  rw [List.getD_eq_getElem?_getD, List.getElem?_append_right (by simp), List.length_replicate, Nat.add_sub_cancel_left, List.getElem?_map, List.getElem?_range h]
  rfl
theorem lkI_set {i : Nat} (h : i < k) : (lkI k a key1 i).set (16 + k + i) ((freshL (max a 1) key1).getD i 0) = lkI k a key1 (i + 1) := by
  unfold lkI
  rw [List.set_append_right _ _ (by simp), List.length_replicate, Nat.add_sub_cancel_left]
  congr 1
  apply List.ext_getElem?
  intro j
  rw [List.getElem?_set]
  by_cases hij : i = j
  · subst hij
    simp [h]
  · rw [if_neg hij, List.getElem?_map, List.getElem?_map]
    by_cases hj : j < k
    · rw [List.getElem?_range hj]
      simp only [Option.map_some, Option.some.injEq]
      by_cases h1 : j < i
      · rw [if_pos h1, if_pos (by omega)]
      · rw [if_neg h1, if_neg (by omega)]
    · rw [List.getElem?_eq_none (by simpa using hj)]
      rfl
theorem slG_len : (slG k a key1 P sh).length = 16 + 2 * k := by
  unfold slG
  cases sh <;> simp only [Bool.false_eq_true, if_false, if_true, List.length_set] <;> split <;> simp [lkI_len]
/-- a place, of the words that slabbed lays -/
theorem slG_at (i : Nat) (hk : 1 ≤ k) : at_ (slG k a key1 P sh) i = if sh = true ∧ i = 6 then 1 else if sh = true ∧ i = 5 then 2 else if i = 13 then P else if a ≠ 0 ∧ i = 12 then 1 else at_ (lkI k a key1 a) i := by
  have h1 : ∀ i, at_ (if a = 0 then lkI k a key1 a else (lkI k a key1 a).set 12 1) i = if a ≠ 0 ∧ i = 12 then 1 else at_ (lkI k a key1 a) i := by
    intro i
    by_cases h0 : a = 0
    · rw [if_pos h0, if_neg (fun h => h.1 h0)]
    · rw [if_neg h0]
      by_cases h2 : i = 12
      · subst h2
        rw [if_pos ⟨h0, rfl⟩, at_set_self (by rw [lkI_len]; omega)]
      · rw [if_neg (fun h => h2 h.2), at_set_ne (fun h => h2 h.symm)]
  have hlen : (if a = 0 then lkI k a key1 a else (lkI k a key1 a).set 12 1).length = 16 + 2 * k := by split <;> simp [lkI_len]
  have h2 : ∀ i, at_ ((if a = 0 then lkI k a key1 a else (lkI k a key1 a).set 12 1).set 13 P) i = if i = 13 then P else if a ≠ 0 ∧ i = 12 then 1 else at_ (lkI k a key1 a) i := by
    intro i
    by_cases h3 : i = 13
    · subst h3
      rw [if_pos rfl, at_set_self (by omega)]
    · rw [if_neg h3, at_set_ne (fun h => h3 h.symm), h1]
  unfold slG
  cases sh with
  | false => simp only [Bool.false_eq_true, if_false, false_and]; exact h2 i
  | true =>
    simp only [if_true, true_and]
    by_cases h6 : i = 6
    · subst h6
      rw [if_pos rfl, at_set_self (by rw [List.length_set, List.length_set]; omega)]
    · rw [if_neg h6, at_set_ne (fun h => h6 h.symm)]
      by_cases h5 : i = 5
      · subst h5
        rw [if_pos rfl, at_set_self (by rw [List.length_set]; omega)]
      · rw [if_neg h5, at_set_ne (fun h => h5 h.symm)]
        exact h2 i
theorem w64_lkI (ha : a ≤ k) (hk : k ≤ 16) : W64 (lkI k a key1 a) := by
  intro x hx
  unfold lkI at hx
  rcases List.mem_append.1 hx with hx | hx
  · rw [List.eq_of_mem_replicate hx]; omega
  · obtain ⟨j, hj, rfl⟩ := List.mem_map.1 hx
    by_cases hjn : j < a
    · rw [if_pos hjn]
      unfold freshL
      rw [List.getD_eq_getElem?_getD, List.getElem?_map]
      cases hr : (List.range (max a 1))[j]? with
      | none => show 0 < _; omega
      | some y =>
        have hy : y < max a 1 := List.mem_range.1 (List.mem_of_getElem? hr)
        simp only [Option.map_some, Option.getD_some]
        split
        · exact hide_lt (by omega)
        · exact hide_lt (by omega)
    · rw [if_neg hjn]; omega
theorem w64_slG (ha : a ≤ k) (hk : k ≤ 16) (hP : P < 18446744073709551616) : W64 (slG k a key1 P sh) := by
  have h1 : W64 (lkI k a key1 a) := w64_lkI ha hk
  have h2 : W64 (if a = 0 then lkI k a key1 a else (lkI k a key1 a).set 12 1) := by
    split
    · exact h1
    · exact w64_set h1 (by omega)
  unfold slG
  cases sh with
  | false => exact w64_set h2 hP
  | true => exact w64_set (w64_set (w64_set h2 hP) (by omega)) (by omega)
/-- the links of the list that slabbed lays -/
theorem slG_lk (ha : a ≤ k) (h1 : 1 ≤ k) (hk : k ≤ 16) {g : List Nat} (hg : ∀ i, i < a → at_ g (16 + k + i) = at_ (slG k a key1 P sh) (16 + k + i)) : LkB g (16 + k) key1 (upL a 0) := by
  refine fresh_lkB (n := a) (by omega) (fun i hi => ?_) a 0 (by omega)
  rw [hg i hi, slG_at _ h1, if_neg (by omega), if_neg (by omega), if_neg (by omega), if_neg (by omega), lkI_high (by omega), if_pos hi]
  unfold freshL
  rw [List.getD_eq_getElem?_getD, List.getElem?_map, List.getElem?_range (by omega)]
  simp only [Option.map_some, Option.getD_some]
  rw [show max a 1 = a from by omega]
end
end Go.Proofs.Ytmfemophafncnaa.Back

/-
  Words of a core of n processors and eight slabs: what they say, and what a trim's steps do to them. Plain. No condition.
-/
namespace Go.Proofs.Ytmfemophafncnaa.Ft
open See Fast Back
abbrev cO (n O : Nat) : Ch := ⟨n, 8, O, 11⟩
/-- slabs, one behind the other -/
def Lnk (of : Nat → Option Int) (nx : Int → Nat) : List Int → Nat → Prop
  | [], w => of w = some (-1)
  | x :: L, w => of w = some x ∧ Lnk of nx L (nx x)
theorem Lnk.far {of : Nat → Option Int} {nx nx' : Int → Nat} : ∀ {L : List Int} {w : Nat}, Lnk of nx L w → (∀ x ∈ L, nx' x = nx x) → Lnk of nx' L w
  | [], _, h, _ => h
  | x :: L, _, h, hx => ⟨h.1, by
      rw [hx x List.mem_cons_self]
      exact h.2.far fun y hy => hx y (List.mem_cons_of_mem _ hy)⟩
theorem Lnk.fst {of : Nat → Option Int} {nx : Int → Nat} {L : List Int} {w : Nat} (h : Lnk of nx L w) : of w = some (fst L) := by
  cases L with
  | nil => exact h
  | cons x L => exact h.1
theorem chain_lnk {of : Nat → Option Int} {nx : Int → Nat} {S : Nat} : ∀ {L : List Int} {m : Nat} {out : List Int} {w : Nat}, (∀ x ∈ L, 0 ≤ x ∧ x < (S : Int)) → (∀ x ∈ out, 0 ≤ x) → (out ++ L).Nodup → L.length < m → Lnk of nx L w → chain of nx S m out w = some (out ++ L)
  | [], 0, _, _, _, _, _, hm, _ => by simp at hm
  | [], m + 1, out, w, _, ho, _, _, h => by
    unfold chain
    rw [show of w = some (-1) from h]
    simp only
    rw [if_neg (fun h1 => h1.elim (fun h1 => by omega) (fun h1 => by have := ho _ h1; omega)), if_pos trivial, List.append_nil]
  | x :: L, 0, _, _, _, _, _, hm, _ => by simp at hm
  | x :: L, m + 1, out, w, hb, ho, hn, hm, h => by
    have hx := hb x List.mem_cons_self
    have h2 : x ∉ out := fun hm => by
      rw [List.nodup_append] at hn
      exact hn.2.2 x hm x List.mem_cons_self rfl
    unfold chain
    rw [h.1]
    simp only
    rw [if_neg (fun h1 => h1.elim (fun h1 => by omega) h2), if_neg (by omega)]
    rw [chain_lnk (L := L) (fun y hy => hb y (List.mem_cons_of_mem _ hy)) (fun y hy => by
      rcases List.mem_append.1 hy with hy | hy
      · exact ho y hy
      · simp at hy; omega) (by simpa using hn) (by simp at hm; omega) h.2]
    simp
theorem upto_all {α : Type} {f : Nat → Option α} : ∀ {n : Nat}, (∀ i, i < n → ∃ x, f i = some x) → ∃ l, upto f n = some l
  | 0, _ => ⟨[], rfl⟩
  | n + 1, h => by
    obtain ⟨l, hl⟩ := upto_all (n := n) fun i hi => h i (by omega)
    obtain ⟨x, hx⟩ := h n (by omega)
    exact ⟨l ++ [x], by unfold upto; rw [hl]; simp only; rw [hx]⟩
/-- an element is cut out -/
theorem Lnk.cut {of : Nat → Option Int} {nx nx' : Int → Nat} {x : Int} {Bs : List Int} : ∀ {As : List Int} {w : Nat} {y : Int}, Lnk of nx (As ++ y :: x :: Bs) w → (As ++ y :: x :: Bs).Nodup → nx' y = nx x → (∀ z, z ≠ y → nx' z = nx z) → Lnk of nx' (As ++ y :: Bs) w
  | [], w, y, h, hn, h1, h2 => by
    refine ⟨h.1, ?_⟩
    rw [h1]
    refine h.2.2.far fun z hz => h2 z fun he => ?_
    subst he
    simp at hn
    exact hn.1.2 hz
  | a :: As, w, y, h, hn, h1, h2 => by
    refine ⟨h.1, ?_⟩
    rw [h2 a fun he => by subst he; simp at hn]
    exact Lnk.cut h.2 (by simp at hn; simpa using hn.2) h1 h2
def shIx (n : Nat) : Nat := 4 * n + 1
def nxIx (n : Nat) (s : Int) : Nat := 4 * n + 4 + 4 * s.toNat + 2
def fsIx (n : Nat) (s : Int) : Nat := 4 * n + 4 + 4 * s.toNat
def ctIx (n : Nat) (s : Int) : Nat := 4 * n + 4 + 4 * s.toNat + 1
def pOf (w : Nat) : Option Int := (partOf w).map (·.1)
/-- how words stand: the shelf, what each processor keeps; the lock's word, the held word; slabs from t on are in no list; how many of each are in use -/
structure Sd (n O : Nat) (g : List Nat) (A : List Int) (P : Nat → List Int) (u : Nat → Nat) (lk hd t : Nat) : Prop where
  len : g.length = 4 * n + 36 + 8 * O
  w64 : W64 g
  lock : at_ g (4 * n) = lk
  held : at_ g (4 * n + 2) = hd
  shelf : Lnk shelfOf (fun s => at_ g (nxIx n s)) A (at_ g (4 * n + 1))
  parts : ∀ i, i < n → Lnk pOf (fun s => at_ g (nxIx n s)) (P i) (at_ g (4 * i + 2))
  many : ∀ i, i < n → ∃ k : Nat, k ≤ t ∧ partOf (at_ g (4 * i + 2)) = some (fst (P i), (k : Int))
  heads : ∀ i, i < n → ∃ s o, headOf (at_ g (4 * i)) = some (s, o) ∧ (s = -1 ∨ 0 ≤ s ∧ s < (t : Int) ∧ ∃ l, listP (cO n O) g s o = some l)
  slabs : ∀ s, s < 8 → ∃ x, slabP (cO n O) g s = some x
  nd : A.Nodup
  bd : ∀ x ∈ A, 0 ≤ x ∧ x < (t : Int)
  ndP : ∀ i, i < n → (P i).Nodup
  bdP : ∀ i, i < n → ∀ x ∈ P i, 0 ≤ x ∧ x < (t : Int)
  apart : ∀ i, i < n → ∀ x ∈ A, x ∉ P i
  cnt : ∀ x ∈ A, countsOf (at_ g (ctIx n x)) = some ⟨u x.toNat, O, false, true⟩
  le : t ≤ 8
section
variable {n O : Nat} {g : List Nat} {A : List Int} {P : Nat → List Int} {u : Nat → Nat} {lk hd t : Nat}
theorem nextAt_eq (s : Int) : nextAt (cO n O) g s = at_ g (nxIx n s) := by
  unfold nextAt nxIx
  rfl
theorem Sd.shelfP (h : Sd n O g A P u lk hd t) : See.shelfP (cO n O) g = some A := by
  have hle := h.le
  have hb : ∀ x ∈ A, 0 ≤ x ∧ x < ((8 : Nat) : Int) := fun x hx => by have := h.bd x hx; omega
  have := few h.nd hb
  unfold See.shelfP
  have h1 := chain_lnk (S := 8) (m := 8 + 1) (out := []) hb (by intro x hx; cases hx) (by simpa using h.nd) (by omega) h.shelf
  rw [List.nil_append] at h1
  exact h1
theorem Sd.partsP (h : Sd n O g A P u lk hd t) {i : Nat} (hi : i < n) : See.partsP (cO n O) g (at_ g (4 * i + 2)) = some (P i) := by
  have hle := h.le
  have hb : ∀ x ∈ P i, 0 ≤ x ∧ x < ((8 : Nat) : Int) := fun x hx => by have := h.bdP i hi x hx; omega
  have := few (h.ndP i hi) hb
  unfold See.partsP
  have h1 := chain_lnk (S := 8) (m := 8 + 1) (out := []) hb (by intro x hx; cases hx) (by simpa using h.ndP i hi) (by omega) (h.parts i hi)
  rw [List.nil_append] at h1
  exact h1
theorem Sd.slot (h : Sd n O g A P u lk hd t) {i : Nat} (hi : i < n) : ∃ x, slotP (cO n O) g i = some x := by
  obtain ⟨s, o, h1, h2⟩ := h.heads i hi
  unfold slotP
  rw [h1]
  simp only
  rcases h2 with rfl | ⟨_, _, l, hl⟩
  · rw [if_pos rfl]
    simp only
    rw [h.partsP hi]
    exact ⟨_, rfl⟩
  · by_cases hs : s = -1
    · rw [if_pos hs]
      simp only
      rw [h.partsP hi]
      exact ⟨_, rfl⟩
    · rw [if_neg hs, hl]
      simp only
      rw [h.partsP hi]
      exact ⟨_, rfl⟩
/-- what the words say -/
theorem Sd.see (h : Sd n O g A P u lk hd t) : ∃ a b, seeP (cO n O) g = some ⟨a, A, decide (lk ≠ 0), b⟩ ∧ a.length = n ∧ b.length = 8 ∧ ∀ s, s < 8 → slabP (cO n O) g s = b[s]? := by
  obtain ⟨a, ha⟩ := upto_all (f := slotP (cO n O) g) (n := n) fun i hi => h.slot hi
  obtain ⟨b, hb⟩ := upto_all (f := slabP (cO n O) g) (n := 8) fun i hi => h.slabs i hi
  refine ⟨a, b, ?_, upto_len ha, upto_len hb, fun s hs => upto_get hb s hs⟩
  unfold seeP
  rw [show upto (slotP (cO n O) g) (cO n O).C = some a from ha]
  simp only
  rw [h.shelfP]
  simp only
  rw [show upto (slabP (cO n O) g) (cO n O).S = some b from hb]
  simp only
  rw [show 4 * (cO n O).C = 4 * n from rfl, h.lock]
theorem Sd.inuse (h : Sd n O g A P u lk hd t) {x : Int} (hx : x ∈ A) {y : SlabP} (hy : slabP (cO n O) g x.toNat = some y) : y.counts.inuse = u x.toNat := by
  unfold slabP at hy
  rw [show at_ g (4 * (cO n O).C + 4 + 4 * x.toNat + 1) = at_ g (ctIx n x) from rfl, h.cnt x hx] at hy
  simp only at hy
  split at hy
  · cases hy
  · split at hy
    · cases hy
    · simp only [Option.some.injEq] at hy
      subst hy
      rfl
/-! words that change -/
theorem links_far {g' : List Nat} {s : Nat} (hs : s < 8) (hl : g.length = 4 * n + 36 + 8 * O) (hl' : g'.length = 4 * n + 36 + 8 * O) (h : ∀ j, j < O → at_ g' (4 * n + 36 + s * O + j) = at_ g (4 * n + 36 + s * O + j)) : links (cO n O) g' s = links (cO n O) g s := by
  have w : ∀ {g : List Nat}, g.length = 4 * n + 36 + 8 * O → g.length = (cO n O).words := fun h => by rw [h]; unfold Ch.words; show _ = 4 * n + 4 + 4 * 8 + 8 * O; omega
  apply List.ext_getElem?
  intro j
  by_cases hj : j < O
  · rw [links_get (c := cO n O) (w hl') hs hj, links_get (c := cO n O) (w hl) hs hj]
    exact congrArg some (h j hj)
  · rw [List.getElem?_eq_none (by rw [links_len (c := cO n O) (w hl') hs]; show O ≤ j; omega), List.getElem?_eq_none (by rw [links_len (c := cO n O) (w hl) hs]; show O ≤ j; omega)]
theorem listP_far {g' : List Nat} {s i : Int} (h : 0 ≤ s → s < 8 → links (cO n O) g' s.toNat = links (cO n O) g s.toNat) : listP (cO n O) g' s i = listP (cO n O) g s i := by
  unfold listP
  by_cases hc : 0 ≤ s ∧ s < ((cO n O).S : Int) ∧ -1 ≤ i ∧ i < ((cO n O).O : Int)
  · rw [if_pos hc, if_pos hc, h hc.1 (by have := hc.2.1; simpa using this)]
  · rw [if_neg hc, if_neg hc]
theorem slabP_far {g' : List Nat} {s : Nat} (h1 : at_ g' (fsIx n s) = at_ g (fsIx n s)) (h2 : at_ g' (ctIx n s) = at_ g (ctIx n s)) (h : s < 8 → links (cO n O) g' s = links (cO n O) g s) : slabP (cO n O) g' s = slabP (cO n O) g s := by
  have e1 : ∀ g : List Nat, at_ g (4 * (cO n O).C + 4 + 4 * s) = at_ g (fsIx n s) := fun g => rfl
  have e2 : ∀ g : List Nat, at_ g (4 * (cO n O).C + 4 + 4 * s + 1) = at_ g (ctIx n s) := fun g => rfl
  unfold slabP
  rw [e1, e1, e2, e2, h1, h2]
  cases countsOf (at_ g (ctIx n s)) with
  | none => rfl
  | some x =>
    simp only
    by_cases h3 : (cO n O).O < at_ g (fsIx n s)
    · rw [if_pos h3, if_pos h3]
    · rw [if_neg h3, if_neg h3, listP_far fun _ hs => h (by omega)]
theorem slabP_zero {s : Nat} (hs : s < 8) (h1 : at_ g (fsIx n s) = 0) (h2 : at_ g (ctIx n s) = 0) : slabP (cO n O) g s = some ⟨⟨0, 0, false, false⟩, []⟩ := by
  have e1 : ∀ g : List Nat, at_ g (4 * (cO n O).C + 4 + 4 * s) = at_ g (fsIx n s) := fun g => rfl
  have e2 : ∀ g : List Nat, at_ g (4 * (cO n O).C + 4 + 4 * s + 1) = at_ g (ctIx n s) := fun g => rfl
  unfold slabP
  rw [e1, e2, h1, h2, show countsOf 0 = some ⟨0, 0, false, false⟩ from rfl]
  simp only
  rw [if_neg (by omega)]
  unfold listP
  rw [if_pos ⟨by omega, (by show (s : Int) < ((8 : Nat) : Int); omega), by omega, (by show ((0 : Nat) : Int) - 1 < (O : Int); omega)⟩]
  simp [See.walk]
/-- the lock's word and the held word -/
theorem Sd.far (h : Sd n O g A P u lk hd t) {g' : List Nat} {lk' hd' : Nat} (hl : g'.length = g.length) (hw : W64 g') (h1 : at_ g' (4 * n) = lk') (h2 : at_ g' (4 * n + 2) = hd') (hs : ∀ i, i ≠ 4 * n → i ≠ 4 * n + 2 → at_ g' i = at_ g i) : Sd n O g' A P u lk' hd' t := by
  have hlen := h.len
  have hlk : ∀ s, s < 8 → links (cO n O) g' s = links (cO n O) g s := fun s hs' => links_far hs' hlen (by omega) fun j _ => hs _ (by omega) (by omega)
  have hnx : ∀ s, at_ g' (nxIx n s) = at_ g (nxIx n s) := fun s => hs _ (by unfold nxIx; omega) (by unfold nxIx; omega)
  refine ⟨by omega, hw, h1, h2, ?_, fun i hi => ?_, fun i hi => ?_, fun i hi => ?_, fun s hs' => ?_, h.nd, h.bd, h.ndP, h.bdP, h.apart, fun x hx => ?_, h.le⟩
  · rw [hs _ (by omega) (by omega)]
    exact h.shelf.far fun x _ => hnx x
  · rw [hs _ (by omega) (by omega)]
    exact (h.parts i hi).far fun x _ => hnx x
  · rw [hs _ (by omega) (by omega)]
    exact h.many i hi
  · rw [hs _ (by omega) (by omega)]
    obtain ⟨s, o, e1, e2⟩ := h.heads i hi
    refine ⟨s, o, e1, e2.imp id fun ⟨q1, q2, l, hl⟩ => ⟨q1, q2, l, ?_⟩⟩
    rw [← hl]
    exact listP_far fun _ hs' => hlk _ (by omega)
  · obtain ⟨x, hx⟩ := h.slabs s hs'
    refine ⟨x, ?_⟩
    rw [← hx]
    exact slabP_far (hs _ (by unfold fsIx; omega) (by unfold fsIx; omega)) (hs _ (by unfold ctIx; omega) (by unfold ctIx; omega)) fun hs' => hlk _ hs'
  · rw [hs _ (by unfold ctIx; omega) (by unfold ctIx; omega)]
    exact h.cnt x hx
theorem Sd.setLock (h : Sd n O g A P u lk hd t) {x : Nat} (hx : x < 18446744073709551616) : Sd n O (g.set (4 * n) x) A P u x hd t := by
  have hlen := h.len
  exact h.far (by simp) (w64_set h.w64 hx) (at_set_self (by omega)) (by rw [at_set_ne (by omega)]; exact h.held) fun i h1 _ => at_set_ne (fun he => h1 he.symm)
theorem Sd.setHeld (h : Sd n O g A P u lk hd t) {x : Nat} (hx : x < 18446744073709551616) : Sd n O (g.set (4 * n + 2) x) A P u lk x t := by
  have hlen := h.len
  exact h.far (by simp) (w64_set h.w64 hx) (by rw [at_set_ne (by omega)]; exact h.lock) (at_set_self (by omega)) fun i _ h1 => at_set_ne (fun he => h1 he.symm)
/-- where the word stands that leads to an element behind some -/
def cutIx (n : Nat) (As : List Int) : Nat := match As.getLast? with
  | none => 4 * n + 1
  | some y => nxIx n y
/-- the one ahead of an element -/
def toV (As : List Int) : Int := match As.getLast? with
  | none => -1
  | some y => y
theorem cut_nil : cutIx n [] = 4 * n + 1 := rfl
theorem cut_last {As : List Int} {y : Int} : cutIx n (As ++ [y]) = nxIx n y := by
  unfold cutIx
  rw [List.getLast?_concat]
theorem to_last {As : List Int} {y : Int} : toV (As ++ [y]) = y := by
  unfold toV
  rw [List.getLast?_concat]
/-- words that are nobody's but the shelf's are set -/
theorem Sd.keep (h : Sd n O g A P u lk hd t) {g' : List Nat} {A' : List Int} {i0 w0 : Nat} (hg : g' = g.set i0 w0) (hw : w0 < 18446744073709551616) (hi : i0 = 4 * n + 1 ∨ ∃ y ∈ A, i0 = nxIx n y) (hs : Lnk shelfOf (fun s => at_ g' (nxIx n s)) A' (at_ g' (4 * n + 1))) (hsub : A'.Sublist A) : Sd n O g' A' P u lk hd t := by
  have hlen := h.len
  have hle := h.le
  have hlo : i0 < 4 * n + 36 := by
    rcases hi with rfl | ⟨y, hy, rfl⟩
    · omega
    · have := h.bd y hy
      unfold nxIx
      omega
  have ne : ∀ j, j ≠ 4 * n + 1 → (∀ y ∈ A, j ≠ nxIx n y) → at_ g' j = at_ g j := fun j h1 h2 => by
    subst hg
    refine at_set_ne fun he => ?_
    rcases hi with rfl | ⟨y, hy, rfl⟩
    · exact h1 he.symm
    · exact h2 y hy he.symm
  have hl' : g'.length = g.length := by subst hg; simp
  have hlk : ∀ s, s < 8 → links (cO n O) g' s = links (cO n O) g s := fun s hs' => links_far hs' hlen (by omega) fun j _ => by
    subst hg
    exact at_set_ne (by omega)
  have hnx : ∀ i, i < n → ∀ x ∈ P i, at_ g' (nxIx n x) = at_ g (nxIx n x) := fun i hi' x hx => ne _ (by unfold nxIx; omega) fun y hy he => by
    have h1 := h.bd y hy
    have h2 := h.bdP i hi' x hx
    have : x = y := by unfold nxIx at he; omega
    subst this
    exact h.apart i hi' x hy hx
  refine ⟨by omega, by subst hg; exact w64_set h.w64 hw, ?_, ?_, hs, fun i hi' => ?_, fun i hi' => ?_, fun i hi' => ?_, fun s hs' => ?_, h.nd.sublist hsub, fun x hx => h.bd x (hsub.subset hx), h.ndP, h.bdP, fun i hi' x hx => h.apart i hi' x (hsub.subset hx), fun x hx => ?_, h.le⟩
  · rw [ne _ (by omega) fun y _ => by unfold nxIx; omega]
    exact h.lock
  · rw [ne _ (by omega) fun y _ => by unfold nxIx; omega]
    exact h.held
  · rw [ne _ (by omega) fun y _ => by unfold nxIx; omega]
    exact (h.parts i hi').far (hnx i hi')
  · rw [ne _ (by omega) fun y _ => by unfold nxIx; omega]
    exact h.many i hi'
  · rw [ne _ (by omega) fun y _ => by unfold nxIx; omega]
    obtain ⟨s, o, e1, e2⟩ := h.heads i hi'
    refine ⟨s, o, e1, e2.imp id fun ⟨q1, q2, l, hl⟩ => ⟨q1, q2, l, ?_⟩⟩
    rw [← hl]
    exact listP_far fun _ hs' => hlk _ (by omega)
  · obtain ⟨x, hx⟩ := h.slabs s hs'
    refine ⟨x, ?_⟩
    rw [← hx]
    exact slabP_far (ne _ (by unfold fsIx; omega) fun y _ => by unfold fsIx nxIx; omega) (ne _ (by unfold ctIx; omega) fun y _ => by unfold ctIx nxIx; omega) fun hs' => hlk _ hs'
  · rw [ne _ (by unfold ctIx; omega) fun y _ => by unfold ctIx nxIx; omega]
    exact h.cnt x (hsub.subset hx)
/-- a slab is cut out of the shelf -/
theorem Sd.cut {As Bs : List Int} {x : Int} (h : Sd n O g (As ++ x :: Bs) P u lk hd t) : Sd n O (g.set (cutIx n As) (at_ g (nxIx n x))) (As ++ Bs) P u lk hd t := by
  have hlen := h.len
  have hle := h.le
  have hx := h.bd x (by simp)
  have hsub : (As ++ Bs).Sublist (As ++ x :: Bs) := (List.Sublist.refl As).append (List.sublist_cons_self x Bs)
  rcases List.eq_nil_or_concat As with rfl | ⟨As', y, rfl⟩
  · rw [cut_nil]
    refine h.keep rfl (w64_at h.w64 _) (Or.inl rfl) ?_ hsub
    rw [at_set_self (by omega)]
    exact h.shelf.2.far fun z _ => at_set_ne (by unfold nxIx; omega)
  · rw [List.concat_eq_append] at h hsub ⊢
    have hy := h.bd y (by simp)
    rw [cut_last]
    refine h.keep rfl (w64_at h.w64 _) (Or.inr ⟨y, by simp, rfl⟩) ?_ hsub
    have hs := h.shelf
    have hn := h.nd
    rw [List.append_assoc] at hs hn ⊢
    rw [at_set_ne (by unfold nxIx; omega)]
    have hb : ∀ z ∈ As' ++ ([y] ++ x :: Bs), 0 ≤ z := fun z hz => by
      rw [← List.append_assoc] at hz
      exact (h.bd z hz).1
    clear h hsub
    have gen : ∀ (As : List Int) (w : Nat), (∀ z ∈ As ++ y :: x :: Bs, 0 ≤ z) → Lnk shelfOf (fun s => at_ g (nxIx n s)) (As ++ y :: x :: Bs) w → (As ++ y :: x :: Bs).Nodup → Lnk shelfOf (fun s => at_ (g.set (nxIx n y) (at_ g (nxIx n x))) (nxIx n s)) (As ++ y :: Bs) w := by
      intro As
      induction As with
      | nil =>
        intro w hb h hn
        refine ⟨h.1, ?_⟩
        show Lnk _ _ _ (at_ (g.set (nxIx n y) (at_ g (nxIx n x))) (nxIx n y))
        rw [at_set_self (by unfold nxIx; omega)]
        refine h.2.2.far fun z hz => at_set_ne fun he => ?_
        have hz0 := hb z (by simp [hz])
        have : y = z := by unfold nxIx at he; omega
        subst this
        simp at hn
        exact hn.1.2 hz
      | cons a As ih =>
        intro w hb h hn
        refine ⟨h.1, ?_⟩
        show Lnk _ _ _ (at_ (g.set (nxIx n y) (at_ g (nxIx n x))) (nxIx n a))
        rw [at_set_ne fun he => ?_]
        · exact ih _ (fun z hz => hb z (List.mem_cons_of_mem _ hz)) h.2 (by simp at hn; simpa using hn.2)
        · have ha := hb a List.mem_cons_self
          have : y = a := by unfold nxIx at he; omega
          subst this
          simp at hn
    exact gen As' _ hb hs hn
/-- a slab that is in no list is wiped -/
theorem Sd.wipe {x : Int} (h : Sd n O g A P u lk hd t) (h0 : 0 ≤ x) (h8 : x < 8) (hx : x ∉ A) : Sd n O ((g.set (fsIx n x) 0).set (ctIx n x) 0) A P u lk hd t := by
  have hlen := h.len
  have ne : ∀ j, j ≠ fsIx n x → j ≠ ctIx n x → at_ ((g.set (fsIx n x) 0).set (ctIx n x) 0) j = at_ g j := fun j h1 h2 => by
    rw [at_set_ne (fun he => h2 he.symm), at_set_ne (fun he => h1 he.symm)]
  have hl' : ((g.set (fsIx n x) 0).set (ctIx n x) 0).length = g.length := by simp
  have hw := w64_set (i := ctIx n x) (w := 0) (w64_set (i := fsIx n x) (w := 0) h.w64 (by omega)) (by omega)
  have e1 : at_ ((g.set (fsIx n x) 0).set (ctIx n x) 0) (fsIx n x) = 0 := by
    rw [at_set_ne (by unfold ctIx fsIx; omega), at_set_self (by unfold fsIx; omega)]
  have e2 : at_ ((g.set (fsIx n x) 0).set (ctIx n x) 0) (ctIx n x) = 0 := at_set_self (by rw [List.length_set]; unfold ctIx; omega)
  generalize (g.set (fsIx n x) 0).set (ctIx n x) 0 = g' at ne hl' hw e1 e2
  have hlk : ∀ s, s < 8 → links (cO n O) g' s = links (cO n O) g s := fun s hs' => links_far hs' hlen (by omega) fun j _ => ne _ (by unfold fsIx; omega) (by unfold ctIx; omega)
  have hnx : ∀ s, at_ g' (nxIx n s) = at_ g (nxIx n s) := fun s => ne _ (by unfold nxIx fsIx; omega) (by unfold nxIx ctIx; omega)
  refine ⟨by omega, hw, ?_, ?_, ?_, fun i hi => ?_, fun i hi => ?_, fun i hi => ?_, fun s hs' => ?_, h.nd, h.bd, h.ndP, h.bdP, h.apart, fun z hz => ?_, h.le⟩
  · rw [ne _ (by unfold fsIx; omega) (by unfold ctIx; omega)]
    exact h.lock
  · rw [ne _ (by unfold fsIx; omega) (by unfold ctIx; omega)]
    exact h.held
  · rw [ne _ (by unfold fsIx; omega) (by unfold ctIx; omega)]
    exact h.shelf.far fun z _ => hnx z
  · rw [ne _ (by unfold fsIx; omega) (by unfold ctIx; omega)]
    exact (h.parts i hi).far fun z _ => hnx z
  · rw [ne _ (by unfold fsIx; omega) (by unfold ctIx; omega)]
    exact h.many i hi
  · rw [ne _ (by unfold fsIx; omega) (by unfold ctIx; omega)]
    obtain ⟨s, o, e1, e2⟩ := h.heads i hi
    refine ⟨s, o, e1, e2.imp id fun ⟨q1, q2, l, hl⟩ => ⟨q1, q2, l, ?_⟩⟩
    rw [← hl]
    exact listP_far fun _ hs' => hlk _ (by omega)
  · by_cases hsx : (s : Int) = x
    · subst hsx
      exact ⟨_, slabP_zero hs' e1 e2⟩
    · obtain ⟨y, hy⟩ := h.slabs s hs'
      refine ⟨y, ?_⟩
      rw [← hy]
      exact slabP_far (ne _ (by unfold fsIx; omega) (by unfold fsIx ctIx; omega)) (ne _ (by unfold fsIx ctIx; omega) (by unfold ctIx; omega)) fun hs' => hlk _ hs'
  · have hz0 := h.bd z hz
    have : z ≠ x := fun he => hx (he ▸ hz)
    rw [ne _ (by unfold fsIx ctIx; omega) (by unfold ctIx; omega)]
    exact h.cnt z hz
end
end Go.Proofs.Ytmfemophafncnaa.Ft

/-
  Words that World.core lays. Plain. No condition.
-/
namespace Go.Proofs.Ytmfemophafncnaa.Ft
open See Fast Back
section
variable {n O : Nat} {g : List Nat} {A : List Int} {P : Nat → List Int} {u : Nat → Nat} {lk hd t : Nat}
theorem Sd.up (h : Sd n O g A P u lk hd t) (ht : t < 8) : Sd n O g A P u lk hd (t + 1) :=
  ⟨h.len, h.w64, h.lock, h.held, h.shelf, h.parts, fun i hi => by
    obtain ⟨k, h1, h2⟩ := h.many i hi
    exact ⟨k, by omega, h2⟩, fun i hi => by
    obtain ⟨s, o, e1, e2⟩ := h.heads i hi
    exact ⟨s, o, e1, e2.imp id fun ⟨q1, q2, q3⟩ => ⟨q1, by omega, q3⟩⟩, h.slabs, h.nd, fun x hx => by have := h.bd x hx; omega, h.ndP, fun i hi x hx => by have := h.bdP i hi x hx; omega, h.apart, h.cnt, by omega⟩
/-- a slab's own words and links are laid -/
theorem Sd.lay (h : Sd n O g A P u lk hd t) (ht : t < 8) {g' : List Nat} (hl' : g'.length = g.length) (hw : W64 g') (same : ∀ j, j ≠ fsIx n t → j ≠ ctIx n t → (j < 4 * n + 36 + t * O ∨ 4 * n + 36 + t * O + O ≤ j) → at_ g' j = at_ g j) (hs : ∃ x, slabP (cO n O) g' t = some x) : Sd n O g' A P u lk hd t := by
  have hlen := h.len
  have ne : ∀ j, j ≠ fsIx n t → j ≠ ctIx n t → j < 4 * n + 36 → at_ g' j = at_ g j := fun j h1 h2 h3 => same j h1 h2 (Or.inl (Nat.lt_of_lt_of_le h3 (Nat.le_add_right _ _)))
  have hlk : ∀ s, s < 8 → s ≠ t → links (cO n O) g' s = links (cO n O) g s := fun s hs' hst => links_far hs' hlen (by omega) fun j hj => by
    refine same _ (by unfold fsIx; omega) (by unfold ctIx; omega) ?_
    rcases Nat.lt_or_gt_of_ne hst with h1 | h1
    · have := Nat.mul_le_mul_right O (show s + 1 ≤ t by omega)
      rw [Nat.succ_mul] at this
      left; omega
    · have := Nat.mul_le_mul_right O (show t + 1 ≤ s by omega)
      rw [Nat.succ_mul] at this
      right; omega
  have hnx : ∀ s : Int, 0 ≤ s → s < (t : Int) → at_ g' (nxIx n s) = at_ g (nxIx n s) := fun s h0 h1 => ne _ (by unfold nxIx fsIx; omega) (by unfold nxIx ctIx; omega) (by unfold nxIx; omega)
  refine ⟨by omega, hw, ?_, ?_, ?_, fun i hi => ?_, fun i hi => ?_, fun i hi => ?_, fun s hs' => ?_, h.nd, h.bd, h.ndP, h.bdP, h.apart, fun z hz => ?_, h.le⟩
  · rw [ne _ (by unfold fsIx; omega) (by unfold ctIx; omega) (by omega)]
    exact h.lock
  · rw [ne _ (by unfold fsIx; omega) (by unfold ctIx; omega) (by omega)]
    exact h.held
  · rw [ne _ (by unfold fsIx; omega) (by unfold ctIx; omega) (by omega)]
    exact h.shelf.far fun z hz => hnx z (h.bd z hz).1 (h.bd z hz).2
  · rw [ne _ (by unfold fsIx; omega) (by unfold ctIx; omega) (by omega)]
    exact (h.parts i hi).far fun z hz => hnx z (h.bdP i hi z hz).1 (h.bdP i hi z hz).2
  · rw [ne _ (by unfold fsIx; omega) (by unfold ctIx; omega) (by omega)]
    exact h.many i hi
  · rw [ne _ (by unfold fsIx; omega) (by unfold ctIx; omega) (by omega)]
    obtain ⟨s, o, e1, e2⟩ := h.heads i hi
    refine ⟨s, o, e1, e2.imp id fun ⟨q1, q2, l, hl⟩ => ⟨q1, q2, l, ?_⟩⟩
    rw [← hl]
    exact listP_far fun _ _ => hlk _ (by omega) (by omega)
  · by_cases hst : s = t
    · subst hst; exact hs
    · obtain ⟨y, hy⟩ := h.slabs s hs'
      refine ⟨y, ?_⟩
      rw [← hy]
      exact slabP_far (ne _ (by unfold fsIx; omega) (by unfold fsIx ctIx; omega) (by unfold fsIx; omega)) (ne _ (by unfold fsIx ctIx; omega) (by unfold ctIx; omega) (by unfold ctIx; omega)) fun hs' => hlk _ hs' hst
  · have hz0 := h.bd z hz
    rw [ne _ (by unfold fsIx ctIx; omega) (by unfold ctIx; omega) (by unfold ctIx; omega)]
    exact h.cnt z hz
/-- a slab's next word -/
theorem Sd.next (h : Sd n O g A P u lk hd t) (ht : t < 8) {w : Nat} (hw : w < 18446744073709551616) : Sd n O (g.set (nxIx n t) w) A P u lk hd t := by
  have hlen := h.len
  have hl' : (g.set (nxIx n t) w).length = g.length := by simp
  have hw' := w64_set (i := nxIx n t) h.w64 hw
  have ne : ∀ j, j ≠ nxIx n t → at_ (g.set (nxIx n t) w) j = at_ g j := fun j h1 => at_set_ne fun he => h1 he.symm
  generalize g.set (nxIx n t) w = g' at ne hl' hw'
  have hlk : ∀ s, s < 8 → links (cO n O) g' s = links (cO n O) g s := fun s hs' => links_far hs' hlen (by omega) fun j hj => ne _ (by unfold nxIx; omega)
  have hnx : ∀ s : Int, 0 ≤ s → s < (t : Int) → at_ g' (nxIx n s) = at_ g (nxIx n s) := fun s h0 h1 => ne _ (by unfold nxIx; omega)
  refine ⟨by omega, hw', ?_, ?_, ?_, fun i hi => ?_, fun i hi => ?_, fun i hi => ?_, fun s hs' => ?_, h.nd, h.bd, h.ndP, h.bdP, h.apart, fun z hz => ?_, h.le⟩
  · rw [ne _ (by unfold nxIx; omega)]
    exact h.lock
  · rw [ne _ (by unfold nxIx; omega)]
    exact h.held
  · rw [ne _ (by unfold nxIx; omega)]
    exact h.shelf.far fun z hz => hnx z (h.bd z hz).1 (h.bd z hz).2
  · rw [ne _ (by unfold nxIx; omega)]
    exact (h.parts i hi).far fun z hz => hnx z (h.bdP i hi z hz).1 (h.bdP i hi z hz).2
  · rw [ne _ (by unfold nxIx; omega)]
    exact h.many i hi
  · rw [ne _ (by unfold nxIx; omega)]
    obtain ⟨s, o, e1, e2⟩ := h.heads i hi
    refine ⟨s, o, e1, e2.imp id fun ⟨q1, q2, l, hl⟩ => ⟨q1, q2, l, ?_⟩⟩
    rw [← hl]
    exact listP_far fun _ _ => hlk _ (by omega)
  · obtain ⟨y, hy⟩ := h.slabs s hs'
    refine ⟨y, ?_⟩
    rw [← hy]
    exact slabP_far (ne _ (by unfold fsIx nxIx; omega)) (ne _ (by unfold ctIx nxIx; omega)) fun hs' => hlk _ hs'
  · rw [ne _ (by unfold nxIx ctIx; omega)]
    exact h.cnt z hz
/-- a slab is put on the shelf -/
theorem Sd.push (h : Sd n O g A P u lk hd t) (ht : t < 8) {a hd' : Nat} (hc : countsOf (at_ g (ctIx n t)) = some ⟨a, O, false, true⟩) (hh : hd' < 18446744073709551616) : Sd n O (((g.set (nxIx n t) (at_ g (4 * n + 1))).set (4 * n + 1) (t + 1)).set (4 * n + 2) hd') ((t : Int) :: A) P (fun s => if s = t then a else u s) lk hd' (t + 1) := by
  have hlen := h.len
  have h1 := h.next ht (w64_at h.w64 (4 * n + 1))
  have e1 : at_ (g.set (nxIx n t) (at_ g (4 * n + 1))) (nxIx n t) = at_ g (4 * n + 1) := at_set_self (by unfold nxIx; omega)
  have hc1 : countsOf (at_ (g.set (nxIx n t) (at_ g (4 * n + 1))) (ctIx n t)) = some ⟨a, O, false, true⟩ := by rw [at_set_ne (by unfold nxIx ctIx; omega)]; exact hc
  have hsh := h1.shelf
  rw [at_set_ne (show nxIx n t ≠ 4 * n + 1 by unfold nxIx; omega)] at hsh
  generalize g.set (nxIx n t) (at_ g (4 * n + 1)) = g1 at h1 e1 hc1 hsh ⊢
  have hlen1 := h1.len
  have hl' : (g1.set (4 * n + 1) (t + 1)).length = g1.length := by simp
  have hw' : W64 (g1.set (4 * n + 1) (t + 1)) := w64_set (i := 4 * n + 1) h1.w64 (by omega)
  have ne : ∀ j, j ≠ 4 * n + 1 → at_ (g1.set (4 * n + 1) (t + 1)) j = at_ g1 j := fun j h1 => at_set_ne fun he => h1 he.symm
  have e2 : at_ (g1.set (4 * n + 1) (t + 1)) (4 * n + 1) = t + 1 := at_set_self (by omega)
  generalize g1.set (4 * n + 1) (t + 1) = g' at ne hl' hw' e2 ⊢
  have hlk : ∀ s, s < 8 → links (cO n O) g' s = links (cO n O) g1 s := fun s hs' => links_far hs' hlen1 (by omega) fun j hj => ne _ (by omega)
  have hnx : ∀ s, at_ g' (nxIx n s) = at_ g1 (nxIx n s) := fun s => ne _ (by unfold nxIx; omega)
  have hS : Sd n O g' ((t : Int) :: A) P (fun s => if s = t then a else u s) lk hd (t + 1) := by
    refine ⟨by omega, hw', ?_, ?_, ⟨?_, ?_⟩, fun i hi => ?_, fun i hi => ?_, fun i hi => ?_, fun s hs' => ?_, List.nodup_cons.2 ⟨fun hm => ?_, h1.nd⟩, fun x hx => ?_, h1.ndP, fun i hi x hx => by have := h1.bdP i hi x hx; omega, fun i hi x hx hm => ?_, fun z hz => ?_, by omega⟩
    · rw [ne _ (by omega)]
      exact h1.lock
    · rw [ne _ (by omega)]
      exact h1.held
    · rw [e2]
      unfold shelfOf
      rw [if_pos (by omega)]
      congr 1
      omega
    · show Lnk shelfOf _ _ (at_ g' (nxIx n t))
      rw [hnx, e1]
      exact hsh.far fun z _ => hnx z
    · rw [ne _ (by omega)]
      exact (h1.parts i hi).far fun z _ => hnx z
    · rw [ne _ (by omega)]
      obtain ⟨k, q1, q2⟩ := h1.many i hi
      exact ⟨k, by omega, q2⟩
    · rw [ne _ (by omega)]
      obtain ⟨s, o, q1, q2⟩ := h1.heads i hi
      refine ⟨s, o, q1, q2.imp id fun ⟨q1, q2, l, hl⟩ => ⟨q1, by omega, l, ?_⟩⟩
      rw [← hl]
      exact listP_far fun _ _ => hlk _ (by omega)
    · obtain ⟨y, hy⟩ := h1.slabs s hs'
      refine ⟨y, ?_⟩
      rw [← hy]
      exact slabP_far (ne _ (by unfold fsIx; omega)) (ne _ (by unfold ctIx; omega)) fun hs' => hlk _ hs'
    · have := h1.bd _ hm
      omega
    · rcases List.mem_cons.1 hx with rfl | hx
      · omega
      · have := h1.bd _ hx
        omega
    · rcases List.mem_cons.1 hx with rfl | hx
      · have := h1.bdP i hi _ hm
        omega
      · exact h1.apart i hi x hx hm
    · rw [ne _ (by unfold ctIx; omega)]
      rcases List.mem_cons.1 hz with rfl | hz
      · rw [hc1, if_pos (by omega)]
      · have hz0 := h1.bd z hz
        rw [if_neg (by omega)]
        exact h1.cnt z hz
  exact hS.setHeld hh
/-- a slab becomes a processor's head -/
theorem Sd.head (h : Sd n O g A P u lk hd t) (ht : t < 8) {i w : Nat} {o : Int} (hi : i < n) (hw : w < 18446744073709551616) (hh : headOf w = some ((t : Int), o)) (hl : ∃ l, listP (cO n O) g t o = some l) : Sd n O (g.set (4 * i) w) A P u lk hd (t + 1) := by
  have hlen := h.len
  have hl' : (g.set (4 * i) w).length = g.length := by simp
  have hw' := w64_set (i := 4 * i) h.w64 hw
  have ne : ∀ j, j ≠ 4 * i → at_ (g.set (4 * i) w) j = at_ g j := fun j h1 => at_set_ne fun he => h1 he.symm
  have es : at_ (g.set (4 * i) w) (4 * i) = w := at_set_self (by omega)
  generalize g.set (4 * i) w = g' at ne hl' hw' es
  have hlk : ∀ s, s < 8 → links (cO n O) g' s = links (cO n O) g s := fun s hs' => links_far hs' hlen (by omega) fun j hj => ne _ (by omega)
  have hnx : ∀ s : Int, at_ g' (nxIx n s) = at_ g (nxIx n s) := fun s => ne _ (by unfold nxIx; omega)
  refine ⟨by omega, hw', ?_, ?_, ?_, fun i hi => ?_, fun i hi => ?_, fun j hj => ?_, fun s hs' => ?_, h.nd, fun x hx => by have := h.bd x hx; omega, h.ndP, fun i hi x hx => by have := h.bdP i hi x hx; omega, h.apart, fun z hz => ?_, by omega⟩
  · rw [ne _ (by omega)]
    exact h.lock
  · rw [ne _ (by omega)]
    exact h.held
  · rw [ne _ (by omega)]
    exact h.shelf.far fun z hz => hnx z
  · rw [ne _ (by omega)]
    exact (h.parts i hi).far fun z hz => hnx z
  · rw [ne _ (by omega)]
    obtain ⟨k, q1, q2⟩ := h.many i hi
    exact ⟨k, by omega, q2⟩
  · by_cases hji : j = i
    · subst hji
      rw [es]
      obtain ⟨l, hl⟩ := hl
      refine ⟨_, _, hh, Or.inr ⟨by omega, by omega, l, ?_⟩⟩
      rw [← hl]
      exact listP_far fun _ _ => hlk _ (by omega)
    · rw [ne _ (by omega)]
      obtain ⟨s, o, e1, e2⟩ := h.heads j hj
      refine ⟨s, o, e1, e2.imp id fun ⟨q1, q2, l, hl⟩ => ⟨q1, by omega, l, ?_⟩⟩
      rw [← hl]
      exact listP_far fun _ _ => hlk _ (by omega)
  · obtain ⟨y, hy⟩ := h.slabs s hs'
    refine ⟨y, ?_⟩
    rw [← hy]
    exact slabP_far (ne _ (by unfold fsIx; omega)) (ne _ (by unfold ctIx; omega)) fun hs' => hlk _ hs'
  · rw [ne _ (by unfold ctIx; omega)]
    exact h.cnt z hz
/-- a slab is kept by a processor -/
theorem Sd.part (h : Sd n O g A P u lk hd t) (ht : t < 8) {i w k : Nat} (hi : i < n) (hw : w < 18446744073709551616) (hk : k ≤ t + 1) (hh : partOf w = some ((t : Int), (k : Int))) : Sd n O ((g.set (nxIx n t) (at_ g (4 * i + 2))).set (4 * i + 2) w) A (fun j => if j = i then (t : Int) :: P i else P j) u lk hd (t + 1) := by
  have hlen := h.len
  have h1 := h.next ht (w64_at h.w64 (4 * i + 2))
  have e1 : at_ (g.set (nxIx n t) (at_ g (4 * i + 2))) (nxIx n t) = at_ g (4 * i + 2) := at_set_self (by unfold nxIx; omega)
  have hsh := h1.parts i hi
  rw [at_set_ne (show nxIx n t ≠ 4 * i + 2 by unfold nxIx; omega)] at hsh
  generalize g.set (nxIx n t) (at_ g (4 * i + 2)) = g1 at h1 e1 hsh ⊢
  have hlen1 := h1.len
  have hl' : (g1.set (4 * i + 2) w).length = g1.length := by simp
  have hw' : W64 (g1.set (4 * i + 2) w) := w64_set (i := 4 * i + 2) h1.w64 hw
  have ne : ∀ j, j ≠ 4 * i + 2 → at_ (g1.set (4 * i + 2) w) j = at_ g1 j := fun j h1 => at_set_ne fun he => h1 he.symm
  have e2 : at_ (g1.set (4 * i + 2) w) (4 * i + 2) = w := at_set_self (by omega)
  generalize g1.set (4 * i + 2) w = g' at ne hl' hw' e2 ⊢
  have hlk : ∀ s, s < 8 → links (cO n O) g' s = links (cO n O) g1 s := fun s hs' => links_far hs' hlen1 (by omega) fun j hj => ne _ (by omega)
  have hnx : ∀ s, at_ g' (nxIx n s) = at_ g1 (nxIx n s) := fun s => ne _ (by unfold nxIx; omega)
  refine ⟨by omega, hw', ?_, ?_, ?_, fun j hj => ?_, fun j hj => ?_, fun j hj => ?_, fun s hs' => ?_, h1.nd, fun x hx => by have := h1.bd x hx; omega, fun j hj => ?_, fun j hj x hx => ?_, fun j hj x hx => ?_, fun z hz => ?_, by omega⟩
  · rw [ne _ (by omega)]
    exact h1.lock
  · rw [ne _ (by omega)]
    exact h1.held
  · rw [ne _ (by omega)]
    exact h1.shelf.far fun z hz => hnx z
  · by_cases hji : j = i
    · subst hji
      rw [e2]
      simp only [if_true]
      refine ⟨by unfold pOf; rw [hh]; rfl, ?_⟩
      show Lnk pOf _ _ (at_ g' (nxIx n t))
      rw [hnx, e1]
      exact hsh.far fun z _ => hnx z
    · rw [ne _ (by omega), if_neg hji]
      exact (h1.parts j hj).far fun z _ => hnx z
  · by_cases hji : j = i
    · subst hji
      rw [e2, if_pos rfl]
      exact ⟨k, hk, hh⟩
    · rw [ne _ (by omega), if_neg hji]
      obtain ⟨k, q1, q2⟩ := h1.many j hj
      exact ⟨k, by omega, q2⟩
  · rw [ne _ (by omega)]
    obtain ⟨s, o, e1, e2⟩ := h1.heads j hj
    refine ⟨s, o, e1, e2.imp id fun ⟨q1, q2, l, hl⟩ => ⟨q1, by omega, l, ?_⟩⟩
    rw [← hl]
    exact listP_far fun _ _ => hlk _ (by omega)
  · obtain ⟨y, hy⟩ := h1.slabs s hs'
    refine ⟨y, ?_⟩
    rw [← hy]
    exact slabP_far (ne _ (by unfold fsIx; omega)) (ne _ (by unfold ctIx; omega)) fun hs' => hlk _ hs'
  · by_cases hji : j = i
    · subst hji
      rw [if_pos rfl]
      refine List.nodup_cons.2 ⟨fun hm => ?_, h1.ndP j hj⟩
      have := h1.bdP j hj _ hm
      omega
    · rw [if_neg hji]
      exact h1.ndP j hj
  · by_cases hji : j = i
    · subst hji
      rw [if_pos rfl] at hx
      rcases List.mem_cons.1 hx with rfl | hx
      · omega
      · have := h1.bdP j hj _ hx
        omega
    · rw [if_neg hji] at hx
      have := h1.bdP j hj _ hx
      omega
  · have hx0 := h1.bd x hx
    by_cases hji : j = i
    · subst hji
      rw [if_pos rfl]
      intro hm
      rcases List.mem_cons.1 hm with rfl | hm
      · omega
      · exact h1.apart j hj x hx hm
    · rw [if_neg hji]
      exact h1.apart j hj x hx
  · rw [ne _ (by unfold ctIx; omega)]
    exact h1.cnt z hz
/-! links that are laid -/
/-- links from one object on, so many: the last one below another one shows none -/
def chG (b key fr tp : Nat) (g : List Nat) : Nat → List Nat
  | 0 => g
  | k + 1 => (chG b key fr tp g k).set (b + (fr + k)) (hideW (if fr + k + 1 = tp then -1 else ((fr + k : Nat) : Int) + 1) key (fr + k))
theorem chG_len {b key fr tp : Nat} : ∀ {k : Nat}, (chG b key fr tp g k).length = g.length
  | 0 => rfl
  | k + 1 => by unfold chG; rw [List.length_set, chG_len]
theorem chG_w64 {b key fr tp : Nat} (hg : W64 g) : ∀ {k : Nat}, fr + k ≤ tp → tp ≤ 16 → W64 (chG b key fr tp g k)
  | 0, _, _ => hg
  | k + 1, h, h2 => w64_set (chG_w64 hg (by omega) h2) (by split <;> exact hide_lt (by omega))
theorem chG_out {b key fr tp : Nat} {j : Nat} : ∀ {k : Nat}, (j < b + fr ∨ b + fr + k ≤ j) → at_ (chG b key fr tp g k) j = at_ g j
  | 0, _ => rfl
  | k + 1, h => by unfold chG; rw [at_set_ne (by omega), chG_out (by omega)]
theorem chG_in {b key fr tp : Nat} {i : Nat} (hb : b + fr + (tp - fr) ≤ g.length) : ∀ {k : Nat}, k ≤ tp - fr → fr ≤ i → i < fr + k → at_ (chG b key fr tp g k) (b + i) = hideW (if i + 1 = tp then -1 else (i : Int) + 1) key i
  | 0, _, h1, h2 => by omega
  | k + 1, hk, h1, h2 => by
    unfold chG
    by_cases hi : i = fr + k
    · subst hi
      rw [at_set_self (by rw [chG_len]; omega)]
    · rw [at_set_ne (by omega), chG_in hb (by omega) h1 (by omega)]
/-- what such links show -/
theorem lkB_up {b key tp : Nat} (hn : tp ≤ 16) {fr : Nat} (hg : ∀ i, fr ≤ i → i < tp → at_ g (b + i) = hideW (if i + 1 = tp then -1 else (i : Int) + 1) key i) : ∀ d i, fr ≤ i → tp - i = d → LkB g b key (upL tp i) := by
  intro d
  induction d with
  | zero =>
    intro i _ hi
    rw [upL_nil (by omega)]
    trivial
  | succ d ih =>
    intro i h0 hi
    rw [upL_cons (by omega)]
    refine ⟨?_, ih (i + 1) (by omega) (by omega)⟩
    rw [show ((i : Int)).toNat = i from by omega, hg i h0 (by omega), fst_upL]
    by_cases h1 : i + 1 = tp
    · rw [if_pos h1, if_neg (by omega)]
      exact show_hide (by omega) (by omega)
    · rw [if_neg h1, if_pos (by omega)]
      exact show_hide (by omega) (by omega)
/-- a list of such links -/
theorem listP_up {s fr tp : Nat} (hO : O ≤ 16) (hs : s < 8) (hl : g.length = 4 * n + 36 + 8 * O) (hto : tp ≤ O) (hg : ∀ i, fr ≤ i → i < tp → at_ g (4 * n + 36 + s * O + i) = hideW (if i + 1 = tp then -1 else (i : Int) + 1) (See.keyOf 11 s) i) : listP (cO n O) g s (if fr < tp then (fr : Int) else -1) = some (upL tp fr) := by
  have hm := Nat.mul_le_mul_right O (show s + 1 ≤ 8 by omega)
  rw [Nat.succ_mul] at hm
  unfold listP
  rw [if_pos ⟨by omega, (by show (s : Int) < ((8 : Nat) : Int); omega), by split <;> omega, (by show (if fr < tp then (fr : Int) else -1) < (O : Int); split <;> omega)⟩]
  rw [← fst_upL]
  have hlk := lkB_up (b := 4 * n + 36 + s * O) (key := See.keyOf 11 s) (show tp ≤ 16 by omega) hg (tp - fr) fr (Nat.le_refl _) rfl
  have h2 := walk_listB (b := 4 * n + 36 + s * O) (O := O) (key := See.keyOf 11 s) (fun x hx => by have := mem_upL.1 hx; omega) hlk (by omega) (O + 1) [] (by simpa using upL_nodup tp fr) (by rw [upL_len]; omega)
  rw [List.nil_append] at h2
  show See.walk _ (See.links (cO n O) g ((s : Int)).toNat) _ [] _ = _
  rw [Int.toNat_natCast]
  unfold See.links
  rw [show 4 * (cO n O).C + 4 + 4 * (cO n O).S + s * (cO n O).O = 4 * n + 36 + s * O from rfl]
  exact h2
/-- the words of a slab that is laid: how many in its own list, how many in somebody's hands besides -/
def slbG (n O s own mine : Nat) (fz : Bool) (g : List Nat) : List Nat :=
  let b := 4 * n + 36 + s * O
  let g1 := chG b (See.keyOf 11 s) 0 own g own
  let g2 := (g1.set (fsIx n s) (if own = 0 then 0 else 1)).set (ctIx n s) (packN (O - own) O fz true)
  chG b (See.keyOf 11 s) own mine g2 (mine - own)
section
variable {s own mine : Nat} {fz : Bool}
theorem slbG_len : (slbG n O s own mine fz g).length = g.length := by
  unfold slbG
  simp only [chG_len, List.length_set]
theorem slbG_w64 (hg : W64 g) (h1 : own ≤ mine) (h2 : mine ≤ O) (h3 : O ≤ 16) : W64 (slbG n O s own mine fz g) :=
  chG_w64 (w64_set (w64_set (chG_w64 hg (by omega) (by omega)) (by split <;> omega)) (packN_lt (by omega) (by omega))) (by omega) (by omega)
theorem slbG_out (hs : s < 8) (h1 : own ≤ mine) (h2 : mine ≤ O) {j : Nat} (a1 : j ≠ fsIx n s) (a2 : j ≠ ctIx n s) (a3 : j < 4 * n + 36 + s * O ∨ 4 * n + 36 + s * O + O ≤ j) : at_ (slbG n O s own mine fz g) j = at_ g j := by
  unfold slbG
  simp only
  rw [chG_out (by omega), at_set_ne (fun he => a2 he.symm), at_set_ne (fun he => a1 he.symm), chG_out (by omega)]
theorem slbG_ct (hl : g.length = 4 * n + 36 + 8 * O) (hs : s < 8) : at_ (slbG n O s own mine fz g) (ctIx n s) = packN (O - own) O fz true := by
  have h0 := Nat.zero_le (s * O)
  unfold slbG
  simp only
  rw [chG_out (by left; unfold ctIx; omega), at_set_self (by rw [List.length_set, chG_len]; unfold ctIx; omega)]
theorem slbG_fs (hl : g.length = 4 * n + 36 + 8 * O) (hs : s < 8) : at_ (slbG n O s own mine fz g) (fsIx n s) = if own = 0 then 0 else 1 := by
  have h0 := Nat.zero_le (s * O)
  unfold slbG
  simp only
  rw [chG_out (by left; unfold fsIx; omega), at_set_ne (by unfold ctIx fsIx; omega), at_set_self (by rw [chG_len]; unfold fsIx; omega)]
theorem slbG_own (hl : g.length = 4 * n + 36 + 8 * O) (hs : s < 8) (h1 : own ≤ mine) (h2 : mine ≤ O) (h3 : O ≤ 16) : listP (cO n O) (slbG n O s own mine fz g) s (if 0 < own then ((0 : Nat) : Int) else -1) = some (upL own 0) := by
  have hm := Nat.mul_le_mul_right O (show s + 1 ≤ 8 by omega)
  rw [Nat.succ_mul] at hm
  refine listP_up h3 hs (by rw [slbG_len]; exact hl) (by omega) fun i _ hi => ?_
  unfold slbG
  simp only
  rw [chG_out (by left; omega), at_set_ne (by unfold ctIx; omega), at_set_ne (by unfold fsIx; omega), chG_in (by omega) (by omega) (by omega) (by omega)]
theorem slbG_mine (hl : g.length = 4 * n + 36 + 8 * O) (hs : s < 8) (h1 : own ≤ mine) (h2 : mine ≤ O) (h3 : O ≤ 16) : listP (cO n O) (slbG n O s own mine fz g) s (if own < mine then (own : Int) else -1) = some (upL mine own) := by
  have hm := Nat.mul_le_mul_right O (show s + 1 ≤ 8 by omega)
  rw [Nat.succ_mul] at hm
  refine listP_up h3 hs (by rw [slbG_len]; exact hl) (by omega) fun i h0 hi => ?_
  unfold slbG
  simp only
  rw [chG_in (by simp only [List.length_set, chG_len]; omega) (by omega) h0 (by omega)]
theorem slbG_slab (hl : g.length = 4 * n + 36 + 8 * O) (hs : s < 8) (h1 : own ≤ mine) (h2 : mine ≤ O) (h3 : O ≤ 16) (h4 : 1 ≤ O) : slabP (cO n O) (slbG n O s own mine fz g) s = some ⟨⟨O - own, O, fz, true⟩, upL own 0⟩ := by
  have e1 : ∀ g : List Nat, at_ g (4 * (cO n O).C + 4 + 4 * s) = at_ g (fsIx n s) := fun g => rfl
  have e2 : ∀ g : List Nat, at_ g (4 * (cO n O).C + 4 + 4 * s + 1) = at_ g (ctIx n s) := fun g => rfl
  have hw := slbG_own (fz := fz) hl hs h1 h2 h3
  unfold slabP
  rw [e1, e2, slbG_ct hl hs, slbG_fs hl hs, countsOf_pack (by omega) h4 h3]
  simp only
  rw [if_neg (show ¬ (cO n O).O < _ by show ¬ O < _; split <;> omega)]
  rw [show (((if own = 0 then 0 else 1 : Nat)) : Int) - 1 = if 0 < own then ((0 : Nat) : Int) else -1 from by split <;> split <;> omega]
  rw [hw]
theorem Sd.slb (h : Sd n O g A P u lk hd t) (ht : t < 8) (h1 : own ≤ mine) (h2 : mine ≤ O) (h3 : O ≤ 16) (h4 : 1 ≤ O) : Sd n O (slbG n O t own mine fz g) A P u lk hd t :=
  h.lay ht slbG_len (slbG_w64 h.w64 h1 h2 h3) (fun j a1 a2 a3 => slbG_out ht h1 h2 a1 a2 a3) ⟨_, slbG_slab h.len ht h1 h2 h3 h4⟩
end
/-- words that are all zero -/
theorem zero_at {N i : Nat} : at_ (List.replicate N 0) i = 0 := by
  unfold at_
  rw [List.getD_eq_getElem?_getD, List.getElem?_replicate]
  split <;> rfl
theorem Sd.zero : Sd n O (List.replicate (4 * n + 36 + 8 * O) 0) [] (fun _ => []) (fun _ => 0) 0 0 0 := by
  refine ⟨by simp, fun x hx => by rw [List.eq_of_mem_replicate hx]; omega, zero_at, zero_at, ?_, fun i _ => ?_, fun i _ => ?_, fun i _ => ?_, fun s hs => ?_, List.nodup_nil, (fun x hx => by cases hx), fun _ _ => List.nodup_nil, (fun _ _ x hx => by cases hx), (fun _ _ x hx => by cases hx), (fun x hx => by cases hx), by omega⟩
  · rw [zero_at]; rfl
  · rw [zero_at]; rfl
  · rw [zero_at]; exact ⟨0, by omega, rfl⟩
  · rw [zero_at]; exact ⟨-1, -1, rfl, Or.inl rfl⟩
  · exact ⟨_, slabP_zero hs zero_at zero_at⟩
end
end Go.Proofs.Ytmfemophafncnaa.Ft
