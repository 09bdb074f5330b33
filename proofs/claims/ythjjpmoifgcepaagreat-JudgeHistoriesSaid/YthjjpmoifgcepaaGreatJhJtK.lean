import Derived.Test.YthjjpmoifgcepaaGreatJh8
import Derived.Test.YthjjpmoifgcepaaGreatJhJtC
import Derived.Test.YthjjpmoifgcepaaGreatJhTreeC
import Derived.Test.YthjjpmoifgcepaaGreatJh9
/-
  Known calls: ContainsFunc over tags; frame.Head of a fresh table of eight pages; tree.Path of the root alone. No condition.
-/
namespace Go.Proofs.YthjjpmoifgcepaaGreat.Jt
open Go Ex
noncomputable section
/-- how many numbers, if each of them is 0, or 1 at one place -/
def tagsOf : SE → Option SE
  | .rep n => some n
  | .lset (.rep n) _ 0 (.lit 1) => some n
  | _ => none
def cfKc (n : Nat) (e : SE) (b : Nat) (h : AH) : List Kc := match h.get n with
  | some (.recs L [.int .i64] t) => match tagsOf L with
    | some e' => match SE.beq e e' with
      | true => match h.get b with
        | some (.cells cs _ t') => match getN cs 0 12 with
          | some C => match (C[9]? : Option AV) with
            | some (.sl _ _ 1 _ _) => match (Nat.blt n 600000 && Nat.blt b 600000) && AV.nms (fun q => Nat.blt q 600000) C with
              | true => [{ f := 21, args := [.dsl n e 1, .fn (.func 22) [] [.ptr b 0]], conds := [(.lt e (.lit 60000), true)], pre := [(n, .recs L [.int .i64] t), (b, .cells C t')], post := [(n, .recs L [.int .i64] t), (b, .cells C t')], res := .bool false }]
              | false => []
            | _ => []
          | none => []
        | _ => []
      | false => []
    | none => []
  | _ => []
def cfOf (h : AH) : Kg := fun args => match args with
  | [.dsl n e 1, .fn (.func f) [] [.ptr b 0]] => match Nat.beq f 22 with
    | true => cfKc n e b h
    | false => []
  | _ => []
/-- a table of eight pages, all free -/
def tabC : List AV := [.int .i64 0, .int .i64 3, .int .i64 0, .int .i64 1, .int .i64 0, .int .i64 0, .int .i64 1, .int .i64 0, .int .i64 0, .int .i64 1, .int .i64 0, .int .i64 0, .int .i64 1, .int .i64 0, .int .i64 0, .int .i64 1, .int .i64 0, .int .i64 0, .int .i64 1, .int .i64 0, .int .i64 0, .int .i64 1, .int .i64 0, .int .i64 0]
def headOf : Kg := fun args => match args with
  | [.sl t 0 8 3 r, .int .i64 (.ofNat p)] => match Nat.blt t 600000 && Nat.blt p 8 with
    | true => [{ f := 111, args := [.sl t 0 8 3 r, .int .i64 (.ofNat p)], pre := [(t, .cells tabC 193)], post := [(t, .cells tabC 193)], res := .tup [.int .i64 0, .int .i64 0] }]
    | false => []
  | _ => []
def pathOf (h : AH) : Kg := fun args => match args with
  | [.ptr t 0, .int .i64 (.ofNat 1)] => match h.get t with
    | some (.cells cs _ t') => match Nat.beq t' 157 with
      | true => match cs.get 0 with
        | some (.sl g 0 1 3 r) => match Nat.blt t 600000 && Nat.blt g 600000 with
          | true => [{ f := 92, args := [.ptr t 0, .int .i64 (.ofNat 1)], pre := [(t, .cells [.sl g 0 1 3 r] 157), (g, .cells [.int .i64 0] 154)], post := [(t, .cells [.sl g 0 1 3 r] 157), (g, .cells [.int .i64 0] 154)], news := [.cells [.int .i64 1] 3], res := .sl rel 0 1 1 .any }]
          | false => []
        | _ => []
      | false => []
    | _ => []
  | _ => []
end
theorem fn_cf : FnOk Tryz.prog 21 := ⟨Tryz.f21, _, Tryz.func21, by kernel_rfl, rfl⟩
theorem fn_head : FnOk Tryz.prog 111 := ⟨Tryz.f111, _, Tryz.func111, by kernel_rfl, rfl⟩
theorem fn_path : FnOk Tryz.prog 92 := ⟨Tryz.f92, _, Tryz.func92, by kernel_rfl, rfl⟩
section
variable [Nums]
/-- what is said of the numbers -/
theorem tags_ev {L e : SE} (h : tagsOf L = some e) : L.evN Nums.σ = (e.ev Nums.σ).toNat ∧ ∀ r, L.evA Nums.σ r 0 = 0 ∨ L.evA Nums.σ r 0 = 1 := by
  unfold tagsOf at h
  split at h <;> first | (cases h; done) | skip
  · cases h
    exact ⟨rfl, fun r => .inl rfl⟩
  · cases h
    refine ⟨rfl, fun r => ?_⟩
    simp only [SE.evA]
    split
    · exact .inr rfl
    · exact .inl rfl
theorem VR.up {ρ ρ' : Ren} {p : Nat → Bool} (hρ : ∀ n, p n = true → ∀ q, ρ n = some q → ρ' n = some q) {v : AV} {x : Value} (hn : AV.nm p v = true) (h : VR ρ v x) : VR ρ' v x :=
  VR.mono (ρ := fun n => if p n then ρ n else none) (fun n q hq => by
    cases hp : p n with
    | true => simp only [hp, if_true] at hq; exact hρ n hp q hq
    | false => simp [hp] at hq) (VR.names (ρ := ρ) (fun n hp => by simp [hp]) hn h)
theorem kc_cf {h : AH} {args : List AV} : ∀ k ∈ cfOf h args, KcOk Tryz.prog k := by
  intro k hk
  unfold cfOf at hk
  split at hk <;> first | (cases hk; done) | skip
  rename_i n e f b
  split at hk <;> first | (cases hk; done) | skip
  unfold cfKc at hk
  split at hk <;> first | (cases hk; done) | skip
  rename_i L t hn
  split at hk <;> first | (cases hk; done) | skip
  rename_i e' hL
  split at hk <;> first | (cases hk; done) | skip
  rename_i he
  split at hk <;> first | (cases hk; done) | skip
  rename_i cs kk t' hb
  split at hk <;> first | (cases hk; done) | skip
  rename_i C hC
  split at hk <;> first | (cases hk; done) | skip
  rename_i g9 o9 z9 r9 hC9
  split at hk <;> first | (cases hk; done) | skip
  rename_i hlt
  rw [List.mem_singleton] at hk
  subst hk
  have he := SE.beq_eq he
  subst he
  rw [Bool.and_eq_true, Bool.and_eq_true] at hlt
  have hn1 : n < 600000 := by simpa using hlt.1.1
  have hb1 : b < 600000 := by simpa using hlt.1.2
  have hnm := hlt.2
  refine kc_own fn_cf (fun p hp => ⟨p.2, hp⟩) (fun p hp => ?_) fun hcs ρ W w m args' bs hF ha hO => ?_
  · simp only [List.mem_cons, List.not_mem_nil, or_false] at hp
    unfold rel
    rcases hp with rfl | rfl <;> assumption
  · obtain ⟨b0, o0, s0, r0, rfl, p0, t0, b1, o1, s1, r1, rfl, p1, t1, rfl⟩ := hF
    have hle : e.ev Nums.σ < 60000 := of_decide_eq_true (hcs (.lt e (.lit 60000), true) (by simp))
    obtain ⟨y, ys, hy, hp, hys⟩ := ha.uncons
    obtain ⟨y2, hy2, hp2⟩ := hys.one
    unfold VR at hp hp2
    obtain ⟨c0, z0, len, c, q0, rfl, hlc, hcm, hcz, hev⟩ := hp
    obtain ⟨a1, a2, rfl, hv1, hv2⟩ := hp2
    rw [p0] at q0
    cases q0
    have e1 : a1 = #[] := by
      have := VRs.len hv1
      simpa using this.symm
    obtain ⟨y3, hy3, hp3⟩ := hv2.one
    unfold VR at hp3
    obtain ⟨c1, z1, q1, rfl⟩ := hp3
    rw [p1] at q1
    cases q1
    have e2 : a2 = #[.pointer (some ⟨b1, 0, none⟩)] := by
      apply Array.ext'
      rw [hy3]
    have hargs : args' = #[.slice (some ⟨b0, 0, none⟩) len c, .func (.func 22) #[] #[.pointer (some ⟨b1, 0, none⟩)]] := by
      apply Array.ext'
      rw [hy, hy2, e1, e2]
    subst hargs
    obtain ⟨cur0, w0, x1, x2, x3⟩ := t0
    cases w0
    obtain ⟨cur1, w1, y1, y2', y3'⟩ := t1
    cases w1
    obtain ⟨hN, hA⟩ := tags_ev hL
    have h0 := hO.get (b := b0) List.mem_cons_self
    have h1 := hO.get (b := b1) (List.mem_cons_of_mem _ List.mem_cons_self)
    obtain ⟨_, y9, z9, hr9⟩ := y3' 9 _ hC9
    unfold VR at hr9
    obtain ⟨g, _, c9, _, rfl, _⟩ := hr9
    have hT : TagsAt w b0 len 1 := fun j hj => by
      have := x3 j 0 (.int .i64) (by omega) rfl
      simp only [List.length_cons, List.length_nil, Nat.zero_add, Nat.mul_one, Nat.add_zero] at this
      rcases hA j with ha | ha
      · exact ⟨0, by omega, by simp [World.cell?, h0, this, ha, CK.val]⟩
      · exact ⟨1, by omega, by simp [World.cell?, h0, this, ha, CK.val]⟩
    have hB : w.cell? ⟨b1, 9, none⟩ = some (.slice (some ⟨g, o9, none⟩) 1 c9) := by simp [World.cell?, h1, z9]
    refine (containsFunc_spec (c := c) hT (heap_lt h0) (heap_lt h1) hB (by omega)).mono ?_
    rintro e w' ⟨rfl, h'⟩
    refine ⟨_, [], _, rfl, hO.of_self h', rfl, rfl, fun ρ' hk _ => ⟨rfl, fun i t d hi => by simp at hi, fun p hp => ?_⟩⟩
    simp only [List.mem_cons, List.not_mem_nil, or_false] at hp
    rcases hp with rfl | rfl
    · exact ⟨b0, _, s0, List.mem_cons_self, p0, cur0, rfl, x1, x2, x3⟩
    · refine ⟨b1, _, s1, List.mem_cons_of_mem _ List.mem_cons_self, p1, cur1, rfl, y1, y2', fun i v hv => ?_⟩
      obtain ⟨k1, y, k2, k3⟩ := y3' i v hv
      exact ⟨k1, y, k2, VR.up (fun q hq p hp => hk q p (by simpa [rel] using hq) hp) (nms_get hnm hv) k3⟩
/-- the table's pages -/
def tabL : List Pg := [(0, 3, 0), (1, 0, 0), (1, 0, 0), (1, 0, 0), (1, 0, 0), (1, 0, 0), (1, 0, 0), (1, 0, 0)]
omit [Nums] in
theorem tab_head : ∀ p, p < 8 → pgHeadE tabL (Int.ofNat p) = (0, 0)
  | 0, _ => by decide +kernel
  | 1, _ => by decide +kernel
  | 2, _ => by decide +kernel
  | 3, _ => by decide +kernel
  | 4, _ => by decide +kernel
  | 5, _ => by decide +kernel
  | 6, _ => by decide +kernel
  | 7, _ => by decide +kernel
  | p + 8, h => absurd h (by omega)
omit [Nums] in
theorem tabL_at : ∀ j p, tabL[j]? = some p → tabC[j * 3]? = some (.int .i64 p.1) ∧ tabC[j * 3 + 1]? = some (.int .i64 p.2.1) ∧ tabC[j * 3 + 2]? = some (.int .i64 p.2.2)
  | 0, p, h => by cases h; exact ⟨rfl, rfl, rfl⟩
  | 1, p, h => by cases h; exact ⟨rfl, rfl, rfl⟩
  | 2, p, h => by cases h; exact ⟨rfl, rfl, rfl⟩
  | 3, p, h => by cases h; exact ⟨rfl, rfl, rfl⟩
  | 4, p, h => by cases h; exact ⟨rfl, rfl, rfl⟩
  | 5, p, h => by cases h; exact ⟨rfl, rfl, rfl⟩
  | 6, p, h => by cases h; exact ⟨rfl, rfl, rfl⟩
  | 7, p, h => by cases h; exact ⟨rfl, rfl, rfl⟩
  | j + 8, p, h => by simp [tabL] at h
theorem kc_head {args : List AV} : ∀ k ∈ headOf args, KcOk Tryz.prog k := by
  intro k hk
  unfold headOf at hk
  split at hk <;> first | (cases hk; done) | skip
  rename_i t r p
  split at hk <;> first | (cases hk; done) | skip
  rename_i hlt
  rw [List.mem_singleton] at hk
  subst hk
  rw [Bool.and_eq_true] at hlt
  have ht : t < 600000 := by simpa using hlt.1
  have hp8 : p < 8 := by simpa using hlt.2
  refine kc_own fn_head (fun p hp => ⟨p.2, hp⟩) (fun p hp => ?_) fun hcs ρ W w m args' bs hF ha hO => ?_
  · simp only [List.mem_cons, List.not_mem_nil, or_false] at hp
    unfold rel
    subst hp
    exact ht
  · obtain ⟨b0, o0, s0, r0, rfl, p0, t0, rfl⟩ := hF
    obtain ⟨y, ys, hy, hp, hys⟩ := ha.uncons
    obtain ⟨y2, hy2, hp2⟩ := hys.one
    unfold VR at hp hp2
    obtain ⟨c0, z0, c, q0, rfl, hlc, hcm, -⟩ := hp
    rw [p0] at q0
    cases q0
    subst hp2
    have hargs : args' = #[.slice (some ⟨b0, 0, none⟩) 8 c, .int .i64 (Int.ofNat p)] := by
      apply Array.ext'
      rw [hy, hy2]
    subst hargs
    have h0 := hO.get (b := b0) List.mem_cons_self
    have t0' := t0
    obtain ⟨cur0, w0, x1, x2, x3⟩ := t0
    cases w0
    have hv : ∀ (i : Nat) (n : Int), tabC[i]? = some (.int .i64 n) → w.cell? ⟨b0, i, none⟩ = some (.int .i64 n) := fun i n hi => by
      obtain ⟨_, y, k2, k3⟩ := x3 i _ hi
      unfold VR at k3
      subst k3
      simp [World.cell?, h0, k2]
    have hs : PgS w (.slice (some ⟨b0, 0, none⟩) 8 c) tabL := ⟨_, c, rfl, hlc, hcm, fun _ => ⟨b0, 0, rfl, heap_lt h0, fun j q hq => by
      obtain ⟨k1, k2, k3⟩ := tabL_at j q hq
      rw [Nat.zero_add]
      exact ⟨hv _ _ k1, hv _ _ k2, hv _ _ k3⟩⟩⟩
    refine (Head_spec (Own.self w) hs (Int.ofNat p)).mono ?_
    rintro e w' ⟨rfl, h'⟩
    rw [tab_head p hp8]
    refine ⟨_, [], _, rfl, hO.of_self h', rfl, rfl, fun ρ' hk _ => ⟨?_, fun i t d hi => by simp at hi, fun p hp => ?_⟩⟩
    · unfold VR
      exact ⟨_, rfl, VRs.cons (by unfold VR; rfl) (VRs.cons (by unfold VR; rfl) VRs.nil)⟩
    · simp only [List.mem_cons, List.not_mem_nil, or_false] at hp
      subst hp
      refine ⟨b0, _, s0, List.mem_cons_self, p0, cur0, rfl, x1, x2, fun i v hv => ?_⟩
      obtain ⟨k1, y, k2, k3⟩ := x3 i v hv
      exact ⟨k1, y, k2, VR.up (p := fun _ => false) (fun q hq => by cases hq) (nms_get (l := tabC) rfl hv) k3⟩
theorem kc_path {h : AH} {args : List AV} : ∀ k ∈ pathOf h args, KcOk Tryz.prog k := by
  intro k hk
  unfold pathOf at hk
  split at hk <;> first | (cases hk; done) | skip
  rename_i t
  split at hk <;> first | (cases hk; done) | skip
  rename_i cs kk t' hcs
  split at hk <;> first | (cases hk; done) | skip
  rename_i ht'
  split at hk <;> first | (cases hk; done) | skip
  rename_i g r hg
  split at hk <;> first | (cases hk; done) | skip
  rename_i hlt
  rw [List.mem_singleton] at hk
  subst hk
  rw [Bool.and_eq_true] at hlt
  have ht : t < 600000 := by simpa using hlt.1
  have hgl : g < 600000 := by simpa using hlt.2
  refine kc_own fn_path (fun p hp => ⟨p.2, hp⟩) (fun p hp => ?_) fun _ ρ W w m args' bs hF ha hO => ?_
  · simp only [List.mem_cons, List.not_mem_nil, or_false] at hp
    unfold rel
    rcases hp with rfl | rfl <;> assumption
  · obtain ⟨b0, o0, s0, r0, rfl, p0, t0, b1, o1, s1, r1, rfl, p1, t1, rfl⟩ := hF
    obtain ⟨y, ys, hy, hp, hys⟩ := ha.uncons
    obtain ⟨y2, hy2, hp2⟩ := hys.one
    unfold VR at hp hp2
    obtain ⟨c0, z0, q0, rfl⟩ := hp
    rw [p0] at q0
    cases q0
    subst hp2
    have hargs : args' = #[.pointer (some ⟨b0, 0, none⟩), .int .i64 1] := by
      apply Array.ext'
      rw [hy, hy2]
      rfl
    subst hargs
    obtain ⟨cur0, w0, x1, x2, x3⟩ := t0
    cases w0
    obtain ⟨cur1, w1, y1, y2', y3'⟩ := t1
    cases w1
    obtain ⟨_, z0, hz0, hv0⟩ := x3 0 _ rfl
    obtain ⟨_, z1, hz1, hv1⟩ := y3' 0 _ rfl
    unfold VR at hv0 hv1
    obtain ⟨g0, sz0, c, hg0, rfl, hc1, hcm, hroom⟩ := hv0
    rw [p1] at hg0
    cases hg0
    subst hv1
    refine (path_root (T := b0) (G := b1) (c := c) hc1 hz0 hz1 hO).mono ?_
    rintro e w' ⟨gn, cap, cur, rfl, k1, k2, k3, k4, h'⟩
    refine ⟨_, [(gn, .cells cur 3)], _, rfl, h', rfl, rfl, fun ρ' hk hd => ?_⟩
    have d0 : ρ' rel = some (gn, objSize (.cells cur 3)) := hd 0 _ rfl
    refine ⟨?_, fun i t d hi hd2 => ?_, fun p hp => ?_⟩
    · unfold VR
      exact ⟨gn, _, cap, d0, rfl, k3, k4, trivial⟩
    · match i with
      | 0 =>
        simp only [List.getElem?_cons_zero, Option.some.injEq] at hi hd2
        subst hi; subst hd2
        have hsz : 1 ≤ cur.size := by omega
        refine ⟨cur, rfl, rfl, hsz, fun j v hj => ?_⟩
        match j with
        | 0 =>
          simp only [List.getElem?_cons_zero, Option.some.injEq] at hj
          subst hj
          refine ⟨rfl, .int .i64 1, ?_, by unfold VR; rfl⟩
          have := congrArg (fun l => l[0]?) k1
          simpa [List.getElem?_take] using this
        | j + 1 => simp at hj
      | i + 1 => simp at hi
    · simp only [List.mem_cons, List.not_mem_nil, or_false] at hp
      rcases hp with rfl | rfl
      · refine ⟨b0, _, s0, List.mem_cons_self, p0, cur0, rfl, x1, x2, fun i v hv => ?_⟩
        obtain ⟨e1, y, e2, e3⟩ := x3 i v hv
        exact ⟨e1, y, e2, VR.up (p := fun q => Nat.blt q 600000) (fun q hq p hp => hk q p (by simpa [rel] using hq) hp) (nms_get (l := [.sl g 0 1 3 r]) (by unfold AV.nms AV.nm; simp [hgl, AV.nms]) hv) e3⟩
      · refine ⟨b1, _, s1, List.mem_cons_of_mem _ List.mem_cons_self, p1, cur1, rfl, y1, y2', fun i v hv => ?_⟩
        obtain ⟨e1, y, e2, e3⟩ := y3' i v hv
        exact ⟨e1, y, e2, VR.up (p := fun _ => false) (fun q hq => by cases hq) (nms_get (l := [.int .i64 0]) rfl hv) e3⟩
end
end Go.Proofs.YthjjpmoifgcepaaGreat.Jt
