/-
  Texts of this claim, joined. No condition.
-/
import Derived.Test.YtllbnoojkgbjiaaGreatFq7
import Derived.Test.YtllbnoojkgbjiaaGreatFq8
import Derived.Test.YtllbnoojkgbjiaaGreatFq10
/-
  Functions of the packages below, as known calls of the runner: mem.New, link.Fresh, link.Hide, count.Pack, Counts, PartOf, slices.Clone, Bring, EqInts. No condition.
-/
namespace Go.Proofs.YtllbnoojkgbjiaaGreat.Ex
open Go Mem See Fast
open Go.RowKit
section
theorem fn_new : FnOk Tryz.prog 13 := ⟨Tryz.f13, _, Tryz.func13, by kernel_rfl, rfl⟩
theorem fn_fresh : FnOk Tryz.prog 57 := ⟨Tryz.f57, _, Tryz.func57, by kernel_rfl, rfl⟩
theorem fn_pack : FnOk Tryz.prog 61 := ⟨Tryz.f61, _, Tryz.func61, by kernel_rfl, rfl⟩
theorem fn_counts : FnOk Tryz.prog 104 := ⟨Tryz.f104, _, Tryz.func104, by kernel_rfl, rfl⟩
theorem fn_partOf : FnOk Tryz.prog 110 := ⟨Tryz.f110, _, Tryz.func110, by kernel_rfl, rfl⟩
theorem fn_hide : FnOk Tryz.prog 71 := ⟨Tryz.f71, _, Tryz.func71, by kernel_rfl, rfl⟩
theorem fn_clone : FnOk Tryz.prog 29 := ⟨Tryz.f29, _, Tryz.func29, by kernel_rfl, rfl⟩
theorem fn_eqInts : FnOk Tryz.prog 33 := ⟨Tryz.f33, _, Tryz.func33, by kernel_rfl, rfl⟩
/-- words, in the runner's words -/
abbrev natsI (g : List Nat) : List Int := g.map fun (x : Nat) => (x : Int)
theorem natsI_get {g : List Nat} {i x : Nat} (h : g[i]? = some x) : (natsI g)[i]? = some (x : Int) := by simp [natsI, h]
theorem natsI_len (g : List Nat) : (natsI g).length = g.length := by simp [natsI]
variable [Nums]
/-- a list is what an expression says -/
structure LsIs (σ : Nat → Int) (L : SE) (g : List Int) : Prop where
  len : L.evN σ = g.length
  at_ : ∀ (i : Nat) x, g[i]? = some x → L.evA σ i 0 = x
omit [Nums] in
theorem LsIs.var {σ : Nat → Int} {q : Nat} {g : List Int} (h : LsVal σ q g) : LsIs σ (.lvar q) g := ⟨by simp only [SE.evN, h.1], fun i x hx => by simp only [SE.evA, h.2 i x hx]⟩
theorem tr_words {ρ : Ren} {L : SE} {b : Nat} {g : List Nat} (h : LsIs Nums.σ L (natsI g)) : TR ρ (.recs L [.int .u64] 23) (objSize (wB b g).2) (some (wB b g).2) := by
  refine ⟨wRow g, rfl, rfl, ?_, fun r j k hr hk => ?_⟩
  · simp only [h.len, List.length_cons, List.length_nil, Nat.zero_add, Nat.mul_one, natsI_len]
    simp [objSize, wB, wRow, words]
  · rw [h.len, natsI_len] at hr
    have hj : j = 0 := by
      have := (List.getElem?_eq_some_iff.1 hk).1
      simp only [List.length_cons, List.length_nil] at this
      omega
    subst hj
    simp only [List.getElem?_cons_zero, Option.some.injEq] at hk
    subst hk
    simp only [List.length_cons, List.length_nil, Nat.zero_add, Nat.mul_one, Nat.add_zero]
    rw [h.at_ r _ (natsI_get (List.getElem?_eq_getElem hr)), wRow_get (List.getElem?_eq_getElem hr)]
    rfl
/-- a slice that reads as words -/
theorem src_words {ρ : Ren} {L : SE} {b s len c : Nat} {o : Obj} {g : List Nat} {W w : World} {m : List (Nat × Obj)} (h : TR ρ (.recs L [.int .u64] 23) s (some o)) (hL : LsIs Nums.σ L (natsI g)) (hlen : len = g.length) (hO : Own W m w) (hm : (b, o) ∈ m) :
    WordsSrc w (.slice (some ⟨b, 0, none⟩) len c) g := by
  obtain ⟨cur, h1, h2, h3, h4⟩ := h
  simp only [Option.some.injEq] at h1
  subst h1
  subst hlen
  refine ⟨by rw [words_len, Nat.mul_one], .inr ⟨_, _, rfl, fun j u hj => ?_⟩⟩
  rw [add_lit0]
  have hjl : j < g.length := by
    have := (List.getElem?_eq_some_iff.1 hj).1
    rwa [words_len] at this
  rw [words_get (List.getElem?_eq_getElem hjl)] at hj
  cases hj
  rw [hO.cell hm]
  have := h4 j 0 (.int .u64) (by rw [hL.len, natsI_len]; exact hjl) rfl
  simp only [List.length_cons, List.length_nil, Nat.zero_add, Nat.mul_one, Nat.add_zero] at this
  rw [this, hL.at_ j _ (natsI_get (List.getElem?_eq_getElem hjl))]
  rfl
/-- .. as numbers -/
theorem src_ints {ρ : Ren} {L : SE} {b s len c : Nat} {o : Obj} {g : List Int} {W w : World} {m : List (Nat × Obj)} (h : TR ρ (.recs L [.int .i64] 3) s (some o)) (hL : LsIs Nums.σ L g) (hlen : len = g.length) (hO : Own W m w) (hm : (b, o) ∈ m) :
    IntsSrc w (.slice (some ⟨b, 0, none⟩) len c) g := by
  obtain ⟨cur, h1, h2, h3, h4⟩ := h
  simp only [Option.some.injEq] at h1
  subst h1
  subst hlen
  refine ⟨by rw [ints_len, Nat.mul_one], .inr ⟨_, _, rfl, fun j u hj => ?_⟩⟩
  rw [add_lit0]
  have hjl : j < g.length := by
    have := (List.getElem?_eq_some_iff.1 hj).1
    rwa [ints_len] at this
  rw [ints_get (List.getElem?_eq_getElem hjl)] at hj
  cases hj
  rw [hO.cell hm]
  have := h4 j 0 (.int .i64) (by rw [hL.len]; exact hjl) rfl
  simp only [List.length_cons, List.length_nil, Nat.zero_add, Nat.mul_one, Nat.add_zero] at this
  rw [this, hL.at_ j _ (List.getElem?_eq_getElem hjl)]
  rfl
/-- mem.New -/
theorem kc_new {n : SE} {q N : Nat} (hn : n.ev Nums.σ = (N : Int)) (h1 : 1 ≤ N) (h2 : N ≤ 4096) (hv : LsVal Nums.σ q (natsI (List.replicate N 0))) :
    KcOk Tryz.prog { f := 13, args := [.sym .i64 n], news := [.cells [.dsl (rel + 1) n 1, .int .i64 0] 48, .recs (.lvar q) [.int .u64] 23], res := .tup [.ptr rel 0, .int .i64 0] } := by
  refine kc_own fn_new (by intro p hp; cases hp) (by intro p hp; cases hp) fun hcs ρ W w m args' bs hF ha hO => ?_
  have hbs : bs = [] := hF
  subst hbs
  have ha := VRs.shut ha rfl
  have ha : args' = #[.int .i64 (N : Int)] := by
    apply Array.ext'
    rw [ha]
    simp only [valsOf, Ex.valOf, hn]
  subst ha
  refine (new_spec hO h1 h2).mono ?_
  rintro e w' ⟨b0, b1, rfl, h'⟩
  refine ⟨_, [mB b0 b1 N 0, wB b1 (List.replicate N 0)], [], rfl, h', rfl, rfl, fun ρ' _ hd => ?_⟩
  have d0 : ρ' rel = some (b0, 2) := hd 0 _ rfl
  have d1 : ρ' (rel + 1) = some (b1, (wRow (List.replicate N 0)).size) := hd 1 _ rfl
  have hsz : (wRow (List.replicate N 0)).size = N := by simp [wRow, words]
  rw [hsz] at d1
  refine ⟨?_, fun j t d hj hd2 => ?_, fun p hp => by cases hp⟩
  · unfold VR
    refine ⟨_, rfl, VRs.cons ?_ (VRs.cons (by unfold VR; rfl) VRs.nil)⟩
    unfold VR
    exact ⟨b0, _, d0, rfl⟩
  · match j with
    | 0 =>
      simp only [List.getElem?_cons_zero, Option.some.injEq] at hj hd2
      subst hj; subst hd2
      refine ⟨_, rfl, rfl, Nat.le_refl _, fun i v hi => ?_⟩
      match i with
      | 0 =>
        simp only [List.getElem?_cons_zero, Option.some.injEq] at hi
        subst hi
        refine ⟨rfl, _, rfl, ?_⟩
        unfold VR
        exact ⟨b1, N, N, N, d1, rfl, Nat.le_refl _, by unfold maxLen; omega, by omega, hn⟩
      | 1 =>
        simp only [List.getElem?_cons_succ, List.getElem?_cons_zero, Option.some.injEq] at hi
        subst hi
        exact ⟨rfl, _, rfl, by unfold VR; rfl⟩
      | i + 2 => simp at hi
    | 1 =>
      simp only [List.getElem?_cons_succ, List.getElem?_cons_zero, Option.some.injEq] at hj hd2
      subst hj; subst hd2
      exact tr_words (.var hv)
    | j + 2 => simp at hj
/-- link.Fresh -/
theorem kc_fresh {a : AV} {ky : SE} {q n key : Nat} (hsh : a.shut = true) (ha0 : Ex.valOf Nums.σ a = .int .i64 (n : Int)) (hk : ky.ev Nums.σ = (key : Int)) (h1 : 1 ≤ n) (h2 : n ≤ 16) (hk2 : key < 18446744073709551616) (hv : LsVal Nums.σ q (natsI (freshL n key))) :
    KcOk Tryz.prog { f := 57, args := [a, .sym .u64 ky], news := [.recs (.lvar q) [.int .u64] 23], res := .tup [.dsl rel (.len (.lvar q)) 1, .int .i64 0] } := by
  refine kc_own fn_fresh (by intro p hp; cases hp) (by intro p hp; cases hp) fun hcs ρ W w m args' bs hF ha hO => ?_
  have hbs : bs = [] := hF
  subst hbs
  have ha := VRs.shut ha (by simp only [AV.shuts, hsh]; rfl)
  have ha : args' = #[.int .i64 (n : Int), .int .u64 (key : Int)] := by
    apply Array.ext'
    rw [ha]
    simp only [valsOf, ha0, Ex.valOf, hk]
  subst ha
  refine (Fast.fresh_spec hO h1 h2 hk2).mono ?_
  rintro e w' ⟨b, rfl, h'⟩
  refine ⟨_, [wB b (freshL n key)], [], rfl, h', rfl, rfl, fun ρ' _ hd => ?_⟩
  have d0 : ρ' rel = some (b, (wRow (freshL n key)).size) := hd 0 _ rfl
  have hsz : (wRow (freshL n key)).size = n := by simp [wRow, words, freshL]
  rw [hsz] at d0
  refine ⟨?_, fun j t d hj hd2 => ?_, fun p hp => by cases hp⟩
  · unfold VR
    refine ⟨_, rfl, VRs.cons ?_ (VRs.cons (by unfold VR; rfl) VRs.nil)⟩
    unfold VR
    refine ⟨b, n, n, n, d0, rfl, Nat.le_refl _, by unfold maxLen; omega, by omega, ?_⟩
    simp only [SE.ev, SE.evN, hv.1]
    simp [natsI, freshL]
  · match j with
    | 0 =>
      simp only [List.getElem?_cons_zero, Option.some.injEq] at hj hd2
      subst hj; subst hd2
      exact tr_words (.var hv)
    | j + 1 => simp at hj
/-- slices.Clone, of words -/
theorem kc_clone {n q : Nat} {len L : SE} {g : List Nat} (hn : n < rel) (hL : LsIs Nums.σ L (natsI g)) (hlen : len.ev Nums.σ = (g.length : Int)) (h0 : 0 < g.length) (h1 : g.length ≤ 4096) (hv : LsVal Nums.σ q (natsI g)) :
    KcOk Tryz.prog { f := 29, args := [.dsl n len 1], pre := [(n, .recs L [.int .u64] 23)], post := [(n, .recs L [.int .u64] 23)], news := [.recs (.lvar q) [.int .u64] 23], res := .dsl rel (.len (.lvar q)) 1 } := by
  refine kc_own fn_clone (by intro p hp; simp only [List.mem_cons, List.not_mem_nil, or_false] at hp; subst hp; exact ⟨_, List.mem_cons_self⟩)
    (by intro p hp; simp only [List.mem_cons, List.not_mem_nil, or_false] at hp; subst hp; exact hn) fun _ ρ W w m args' bs hF ha hO => ?_
  obtain ⟨bw, ow, sw, r, rfl, pw, tw, rfl⟩ := hF
  obtain ⟨y, hy, hp⟩ := ha.one
  unfold VR at hp
  obtain ⟨bw', zw, ln', cap, pw', rfl, hlc, hcm, hz, hlen'⟩ := hp
  rw [pw] at pw'
  cases pw'
  have hl : ln' = g.length := by rw [hlen] at hlen'; omega
  subst hl
  have hargs2 : args' = #[.slice (some ⟨bw, 0, none⟩) g.length cap] := by
    apply Array.ext'
    rw [hy]
  subst hargs2
  have hs := src_words (c := cap) tw hL rfl hO List.mem_cons_self
  refine (clone_spec hO hs (by omega)).mono ?_
  rintro e w' ⟨v', bs', rfl, hw, h'⟩
  obtain ⟨gg, cp, cur, rfl, rfl, c1, c2, ⟨c3, c4⟩, c5⟩ := SlO.form hw h0
  have c4 := c4 rfl
  refine ⟨_, [(gg, .cells cur 23)], [(bw, ow)], rfl, h', rfl, rfl, fun ρ' hk hd => ?_⟩
  have d0 : ρ' rel = some (gg, cur.size) := hd 0 _ rfl
  refine ⟨?_, fun j t d hj hd2 => ?_, fun p hp => ?_⟩
  · unfold VR
    refine ⟨gg, cur.size, _, cp, d0, rfl, c1, c2, c4.symm, ?_⟩
    simp only [SE.ev, SE.evN, hv.1, natsI_len]
  · match j with
    | 0 =>
      simp only [List.getElem?_cons_zero, Option.some.injEq] at hj hd2
      subst hj; subst hd2
      refine ⟨cur, rfl, rfl, ?_, fun r j' k' hr hk' => ?_⟩
      · simp only [SE.evN, hv.1, natsI_len, List.length_cons, List.length_nil, Nat.zero_add, Nat.mul_one]
        show g.length ≤ cur.size
        omega
      · simp only [SE.evN, hv.1, natsI_len] at hr
        have hj0 : j' = 0 := by
          have := (List.getElem?_eq_some_iff.1 hk').1
          simp only [List.length_cons, List.length_nil] at this
          omega
        subst hj0
        simp only [List.getElem?_cons_zero, Option.some.injEq] at hk'
        subst hk'
        simp only [List.length_cons, List.length_nil, Nat.zero_add, Nat.mul_one, Nat.add_zero, SE.evA]
        rw [hv.2 r _ (natsI_get (List.getElem?_eq_getElem hr))]
        have h6 : (cur.toList.take (g.length * 1))[r]? = (words g)[r]? := by rw [c5]
        rw [List.getElem?_take, if_pos (show r < g.length * 1 from by omega), words_get (List.getElem?_eq_getElem hr)] at h6
        rw [← Array.getElem?_toList, h6]
        rfl
    | j + 1 => simp at hj
  · simp only [List.mem_cons, List.not_mem_nil, or_false] at hp
    subst hp
    exact ⟨bw, ow, sw, by simp, pw, tw⟩
/-- count.Pack -/
theorem kc_pack {i o : SE} {fz : Bool} {r A B : Nat} (hi : i.ev Nums.σ = (A : Int)) (ho : o.ev Nums.σ = (B : Int)) (h1 : A ≤ B) (h2 : 1 ≤ B) (h3 : B ≤ 16) (hr : Nums.σ r = (packN A B fz true : Nat)) :
    KcOk Tryz.prog { f := 61, args := [.agg [.sym .i64 i, .sym .i64 o, .bool fz, .bool true]], res := .tup [.sym .u64 (.var r), .int .i64 0] } := by
  refine kc_pure rfl rfl rfl rfl rfl fn_pack fun _ W w m hO => ?_
  rw [show (valsOf Nums.σ [.agg [.sym .i64 i, .sym .i64 o, .bool fz, .bool true]]).toArray = #[.agg #[.int .i64 (A : Int), .int .i64 (B : Int), .bool fz, .bool true]] from by simp only [valsOf, Ex.valOf, hi, ho]]
  refine (pack_ok hO A B (by omega) (by omega) fz true (by unfold mayB; exact decide_eq_true (.inl ⟨rfl, by omega, by omega, by omega, by omega⟩))).mono ?_
  rintro e w' ⟨rfl, h'⟩
  refine ⟨?_, h'⟩
  simp only [Ex.valOf, valsOf, SE.ev, hr]
omit [Nums] in
/-- count.Counts, of a word that Pack gave -/
theorem countsV_pack {A B : Nat} {fz : Bool} (h1 : A ≤ B) (h2 : 1 ≤ B) (h3 : B ≤ 16) : countsV (packN A B fz true) = .tuple #[.agg #[.int .i64 (A : Int), .int .i64 (B : Int), .bool fz, .bool true], .bool true] := by
  have key : ∀ B : Fin 17, ∀ A : Fin 17, ∀ fz : Bool, 1 ≤ B.val → A.val ≤ B.val → countsOf (packN A.val B.val fz true) = some ⟨A.val, B.val, fz, true⟩ := by decide
  have h := key ⟨B, by omega⟩ ⟨A, by omega⟩ fz h2 h1
  unfold countsV
  rw [h]
theorem kc_counts {K i o : SE} {fz : Bool} {A B : Nat} (hK : K.ev Nums.σ = (packN A B fz true : Nat)) (hi : i.ev Nums.σ = (A : Int)) (ho : o.ev Nums.σ = (B : Int)) (h1 : A ≤ B) (h2 : 1 ≤ B) (h3 : B ≤ 16) :
    KcOk Tryz.prog { f := 104, args := [.sym .u64 K], res := .tup [.agg [.sym .i64 i, .sym .i64 o, .bool fz, .bool true], .bool true] } := by
  refine kc_pure rfl rfl rfl rfl rfl fn_counts fun _ W w m hO => ?_
  rw [show (valsOf Nums.σ [.sym .u64 K]).toArray = #[.int .u64 ((packN A B fz true : Nat) : Int)] from by simp only [valsOf, Ex.valOf, hK]]
  refine (counts_spec hO (packN A B fz true) (by unfold packN; split <;> split <;> omega)).mono ?_
  rintro e w' ⟨rfl, h'⟩
  refine ⟨?_, h'⟩
  rw [countsV_pack h1 h2 h3]
  simp only [Ex.valOf, valsOf, hi, ho]
/-- count.PartOf, of nothing -/
theorem kc_partOf0 {N : SE} (h : N.ev Nums.σ = 0) : KcOk Tryz.prog { f := 110, args := [.sym .u64 N], res := .tup [.int .i64 (-1), .int .i64 0, .bool true] } := by
  refine kc_pure rfl rfl rfl rfl rfl fn_partOf fun _ W w m hO => ?_
  rw [show (valsOf Nums.σ [.sym .u64 N]).toArray = #[.int .u64 ((0 : Nat) : Int)] from by simp only [valsOf, Ex.valOf, h]; rfl]
  refine (partOf_spec 0 (by omega) w).mono ?_
  rintro e w' ⟨rfl, rfl⟩
  exact ⟨by rfl, hO⟩
/-- link.Hide -/
theorem kc_hide {i ky n : SE} {r key : Nat} {x y : Int} (hi : i.ev Nums.σ = x) (hk : ky.ev Nums.σ = (key : Int)) (hn : n.ev Nums.σ = y) (h1 : -1 ≤ x ∧ x < 16) (h2 : 0 ≤ y ∧ y < 16) (hk2 : key < 18446744073709551616) (hr : Nums.σ r = (hideW x key y.toNat : Nat)) :
    KcOk Tryz.prog { f := 71, args := [.sym .i64 i, .sym .u64 ky, .sym .i64 n], res := .tup [.sym .u64 (.var r), .int .i64 0] } := by
  refine kc_pure rfl rfl rfl rfl rfl fn_hide fun _ W w m hO => ?_
  rw [show (valsOf Nums.σ [.sym .i64 i, .sym .u64 ky, .sym .i64 n]).toArray = #[.int .i64 x, .int .u64 (key : Int), .int .i64 y] from by simp only [valsOf, Ex.valOf, hi, hk, hn]]
  refine (hide_spec x key y hk2 w).mono ?_
  rintro e w' ⟨rfl, rfl⟩
  refine ⟨?_, hO⟩
  unfold hideV
  rw [if_pos ⟨h1, h2⟩]
  simp only [Ex.valOf, valsOf, SE.ev, hr]
/-- EqInts, of two lists that are one -/
theorem kc_eqInts {a b : Nat} {La Lb na nb : SE} {g : List Int} (ha : a < rel) (hb : b < rel) (hLa : LsIs Nums.σ La g) (hLb : LsIs Nums.σ Lb g) (hna : na.ev Nums.σ = (g.length : Int)) (hnb : nb.ev Nums.σ = (g.length : Int)) (hl : g.length ≤ 60000) :
    KcOk Tryz.prog { f := 33, args := [.dsl a na 1, .dsl b nb 1], pre := [(a, .recs La [.int .i64] 3), (b, .recs Lb [.int .i64] 3)], post := [(a, .recs La [.int .i64] 3), (b, .recs Lb [.int .i64] 3)], res := .bool true } := by
  refine kc_own fn_eqInts (by intro p hp; simp only [List.mem_cons, List.not_mem_nil, or_false] at hp; exact hp.elim (fun h => h ▸ ⟨_, List.mem_cons_self⟩) (fun h => h ▸ ⟨_, List.mem_cons_of_mem _ List.mem_cons_self⟩))
    (by intro p hp; simp only [List.mem_cons, List.not_mem_nil, or_false] at hp; rcases hp with rfl | rfl <;> assumption) fun _ ρ W w m args' bs hF ha' hO => ?_
  obtain ⟨b0, o0, s0, r, rfl, p0, t0, b1, o1, s1, r1, rfl, p1, t1, rfl⟩ := hF
  obtain ⟨y, y2, hy, hp, hp2⟩ := VRs.two ha'
  unfold VR at hp hp2
  obtain ⟨c0, z0, l0, cap0, q0, rfl, _, _, _, e0⟩ := hp
  obtain ⟨c1, z1, l1, cap1, q1, rfl, _, _, _, e1⟩ := hp2
  rw [p0] at q0
  rw [p1] at q1
  cases q0
  cases q1
  have el0 : l0 = g.length := by rw [hna] at e0; omega
  have el1 : l1 = g.length := by rw [hnb] at e1; omega
  have hargs2 : args' = #[.slice (some ⟨b0, 0, none⟩) l0 cap0, .slice (some ⟨b1, 0, none⟩) l1 cap1] := by
    apply Array.ext'
    rw [hy]
  subst hargs2
  have s0' := src_ints (c := cap0) t0 hLa el0 hO List.mem_cons_self
  have s1' := src_ints (c := cap1) t1 hLb el1 hO (List.mem_cons_of_mem _ List.mem_cons_self)
  refine (eqInts_yes s0' s1' hl rfl hO).mono ?_
  rintro e w' ⟨rfl, h'⟩
  refine ⟨_, [], [(b0, o0), (b1, o1)], rfl, h', rfl, rfl, fun ρ' hk _ => ⟨by unfold VR; rfl, fun i t d hi => by simp at hi, fun p hp => ?_⟩⟩
  simp only [List.mem_cons, List.not_mem_nil, or_false] at hp
  rcases hp with rfl | rfl
  · exact ⟨b0, o0, s0, by simp, p0, t0⟩
  · exact ⟨b1, o1, s1, by simp, p1, t1⟩
end
end Go.Proofs.YtllbnoojkgbjiaaGreat.Ex

/-
  Readings out of numbers and lists: what expressions say under them; when two agree. No condition.
-/
namespace Go.Proofs.YtllbnoojkgbjiaaGreat.Ex
open Go
/-- numbers, each a record -/
def one (L : List Int) : List (List Int) := L.map fun x => [x]
theorem one_len (L : List Int) : (one L).length = L.length := by simp [one]
theorem one_at (L : List Int) (e j : Nat) : (((one L)[e]?).getD [])[j]?.getD 0 = if j = 0 then L.getD e 0 else 0 := by
  unfold one
  rw [List.getElem?_map, List.getD_eq_getElem?_getD]
  cases h : L[e]? with
  | none => cases j <;> simp
  | some x => cases j <;> simp
/-- a list, record by record, is what an expression says -/
structure LsRec (σ : Nat → Int) (L : SE) (g : List (List Int)) : Prop where
  len : L.evN σ = g.length
  at_ : ∀ e j, j < 64 → L.evA σ e j = ((g[e]?).getD [])[j]?.getD 0
section
variable {v v' : Nat → Int} {l l' : Nat → List (List Int)} {σ : Nat → Int} {g : List Int} {L : SE}
theorem sg_one {q e : Nat} {L : List Int} (hq : q < 64) (h : l q = one L) : sg v l (lc q e 0) = L.getD e 0 := by
  rw [sg_lc hq (by omega), h]
  exact (one_at L e 0).trans (if_pos rfl)
theorem sg_oneN {q : Nat} {L : List Int} (hq : q < 64) (h : l q = one L) : sg v l (ln q) = (L.length : Int) := by rw [sg_ln hq, h, one_len]
theorem ls_sg {q : Nat} {L : List Int} (hq : q < 64) (h : l q = one L) : LsVal (sg v l) q L :=
  ⟨by rw [sg_oneN hq h, Int.toNat_natCast], fun i x hx => by rw [sg_one hq h, List.getD_eq_getElem?_getD, hx]; rfl⟩
theorem LsRec.is (h : LsRec σ L (one g)) : LsIs σ L g :=
  ⟨by rw [h.len, one_len], fun i x hx => by rw [h.at_ i 0 (by omega), one_at, if_pos rfl, List.getD_eq_getElem?_getD, hx]; rfl⟩
theorem LsRec.var {q : Nat} (hq : q < 64) : LsRec (sg v l) (.lvar q) (l q) :=
  ⟨by simp only [SE.evN]; rw [sg_ln hq, Int.toNat_natCast], fun e j hj => by simp only [SE.evA]; rw [sg_lc hq hj]⟩
theorem LsRec.var' {q : Nat} {g : List (List Int)} (hq : q < 64) (h : l q = g) : LsRec (sg v l) (.lvar q) g := h ▸ LsRec.var hq
theorem LsRec.set {e x : SE} {i : Nat} {y : Int} (h : LsRec σ L (one g)) (he : e.ev σ = (i : Int)) (hx : x.ev σ = y) (hi : i < g.length) : LsRec σ (.lset L e 0 x) (one (g.set i y)) := by
  refine ⟨by simp only [SE.evN, h.len, one_len, List.length_set], fun a j hj => ?_⟩
  simp only [SE.evA, he, hx, Int.toNat_natCast]
  rw [one_at, h.at_ a j hj, one_at, List.getD_eq_getElem?_getD, List.getD_eq_getElem?_getD, List.getElem?_set]
  by_cases hj0 : j = 0
  · by_cases ha : a = i
    · subst ha
      rw [if_pos ⟨rfl, hj0⟩, if_pos hj0, if_pos rfl, if_pos hi]
      rfl
    · rw [if_neg (show ¬ (a = i ∧ j = 0) from fun h => ha h.1), if_neg (show ¬ i = a from fun h => ha h.symm)]
  · rw [if_neg (fun h => hj0 h.2), if_neg hj0, if_neg hj0]
theorem LsRec.nil : LsRec σ .rnil (one []) := ⟨rfl, fun e j _ => by simp [SE.evA, one]⟩
theorem LsRec.snoc {x : SE} {y : Int} (h : LsRec σ L (one g)) (hx : x.ev σ = y) : LsRec σ (.lsnoc L (.rcons x .rnil)) (one (g ++ [y])) := by
  refine ⟨by simp only [SE.evN, h.len, one_len, List.length_append, List.length_cons, List.length_nil], fun a j hj => ?_⟩
  simp only [SE.evA, h.len, one_len]
  rw [one_at]
  by_cases ha : a = g.length
  · subst ha
    rw [if_pos rfl]
    cases j with
    | zero => simp only [if_true, hx]; rw [List.getD_eq_getElem?_getD, List.getElem?_append_right (by omega)]; simp
    | succ j => rw [if_neg (by omega)]
  · rw [if_neg ha, h.at_ a j hj, one_at]
    by_cases hj0 : j = 0
    · rw [if_pos hj0, if_pos hj0, List.getD_eq_getElem?_getD, List.getD_eq_getElem?_getD]
      by_cases hlt : a < g.length
      · rw [List.getElem?_append_left hlt]
      · rw [List.getElem?_eq_none (by omega), List.getElem?_eq_none (by simp; omega)]
    · rw [if_neg hj0, if_neg hj0]
/-- two readings agree, number by number and list by list -/
theorem agree_sg {θ : Sub} {B : Bd} {ro : Nat → Option (Option Addr × Nat × Nat)} {Ω Ω' : Nat → Nat → Nat → Obj → Prop} (hro : ∀ i, ro i = none) (hk : B.k ≤ 2048) (hkl : B.kl ≤ 64) (hko : B.ko = 0)
    (hv : ∀ i, i < B.k → v' i = (θ.vAt i).ev σ) (hl : ∀ i, i < B.kl → LsRec σ (θ.lAt i) (l' i)) : AgreeD θ B ro σ Ω (sg v' l') Ω' := by
  refine ⟨fun i hi => ?_, fun i hi => ?_, fun i hi e j hj => ?_, fun i hi => ?_, fun i p hp => ?_⟩
  · rw [sg_v (by omega)]
    exact hv i hi
  · rw [sg_ln (by omega), Int.toNat_natCast]
    exact (hl i hi).len.symm
  · rw [sg_lc (by omega) hj]
    exact ((hl i hi).at_ e j hj).symm
  · rw [hko] at hi; omega
  · rw [hro] at hp; cases hp
/-- .. also when there are read-only slices -/
theorem agree_sgR {θ : Sub} {B : Bd} {ro : Nat → Option (Option Addr × Nat × Nat)} {Ω Ω' : Nat → Nat → Nat → Obj → Prop} (hro : ∀ i p, ro i = some p → i < 64 ∧ LsRec σ (.lvar i) (l' i)) (hk : B.k ≤ 2048) (hkl : B.kl ≤ 64) (hko : B.ko = 0)
    (hv : ∀ i, i < B.k → v' i = (θ.vAt i).ev σ) (hl : ∀ i, i < B.kl → LsRec σ (θ.lAt i) (l' i)) : AgreeD θ B ro σ Ω (sg v' l') Ω' := by
  refine ⟨fun i hi => ?_, fun i hi => ?_, fun i hi e j hj => ?_, fun i hi => ?_, fun i p hp => ?_⟩
  · rw [sg_v (by omega)]
    exact hv i hi
  · rw [sg_ln (by omega), Int.toNat_natCast]
    exact (hl i hi).len.symm
  · rw [sg_lc (by omega) hj]
    exact ((hl i hi).at_ e j hj).symm
  · rw [hko] at hi; omega
  · obtain ⟨h1, h2⟩ := hro i p hp
    refine ⟨?_, fun e => ?_⟩
    · rw [sg_ln h1, Int.toNat_natCast]
      exact h2.len.symm
    · rw [sg_lc h1 (by omega)]
      exact (h2.at_ e 0 (by omega)).symm
/-- .. nothing is put in place of others but some numbers and lists -/
theorem vAt_nil {θ : Sub} (h : θ.v = []) (i : Nat) : θ.vAt i = .var i := by unfold Sub.vAt; rw [h]; rfl
theorem lAt_nil {θ : Sub} (h : θ.l = []) (i : Nat) : θ.lAt i = .lvar i := by unfold Sub.lAt; rw [h]; rfl
theorem lookS_ne {i j : Nat} {e : SE} {r : List (Nat × SE)} (h : j ≠ i) : lookS i ((j, e) :: r) = lookS i r := by
  have : Nat.beq j i = false := by
    cases hb : Nat.beq j i with
    | false => rfl
    | true => exact absurd (Nat.eq_of_beq_eq_true hb) h
  rw [lookS, this]
theorem lookS_eq {i : Nat} {e : SE} {r : List (Nat × SE)} : lookS i ((i, e) :: r) = some e := by
  have : Nat.beq i i = true := Nat.beq_refl i
  rw [lookS, this]
theorem vAt_ne {θ : Sub} {j : Nat} {e : SE} {r : List (Nat × SE)} (h : θ.v = (j, e) :: r) {i : Nat} (hij : j ≠ i) : θ.vAt i = ({ v := r } : Sub).vAt i := by
  unfold Sub.vAt
  rw [h, lookS_ne hij]
theorem lAt_ne {θ : Sub} {j : Nat} {e : SE} {r : List (Nat × SE)} (h : θ.l = (j, e) :: r) {i : Nat} (hij : j ≠ i) : θ.lAt i = ({ l := r } : Sub).lAt i := by
  unfold Sub.lAt
  rw [h, lookS_ne hij]
end
/-- a text's run looks at the blocks alone -/
theorem treeC_h {P : Program} {gs : List (Nat × List Int)} {rks : List (Nat × CK)} {kcs : Kg} {lns : List Ln} {n : Nat} {f : FuncId} {args : List AV} {t t' : Tm} (h : t.h = t'.h) : ∀ (d : CT) (fs : List (Cnd × Bool)), treeC P gs rks kcs lns n f args t d fs = treeC P gs rks kcs lns n f args t' d fs
  | .is v post, fs => by unfold treeC; rw [h]
  | .bad, fs => rfl
  | .node q a b, fs => by unfold treeC; rw [treeC_h h a, treeC_h h b]
theorem i64_small {x : Int} (h0 : -9223372036854775808 ≤ x) (h1 : x < 9223372036854775808) : IntKind.i64.wrap x = x := by
  rw [IntKind.wrap_i64]
  omega
theorem u64_small {x : Int} (h0 : 0 ≤ x) (h1 : x < 18446744073709551616) : IntKind.u64.wrap x = x := by
  rw [IntKind.wrap_u64]
  omega
end Go.Proofs.YtllbnoojkgbjiaaGreat.Ex
