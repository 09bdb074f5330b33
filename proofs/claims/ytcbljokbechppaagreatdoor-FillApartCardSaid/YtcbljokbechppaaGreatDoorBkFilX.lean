import Derived.Test.YtcbljokbechppaaGreatDoorBkFilV
/-
  fill.Step at a shelf: its readings, what is known of its calls, what is behind it. No condition.
-/
namespace Go.Proofs.YtcbljokbechppaaGreatDoor.Fil
open Go Ex Mem See
open Go.RowKit
theorem mixed : Tryz.prog.follows .mixedOrders = true := by kernel_rfl
theorem fn_step : FnOk Tryz.prog 19 := ⟨Tryz.f19, _, Tryz.func19, by kernel_rfl, rfl⟩
theorem fn_show : FnOk Tryz.prog 102 := ⟨Tryz.f102, _, Tryz.func102, by kernel_rfl, rfl⟩
theorem fn_head : FnOk Tryz.prog 89 := ⟨Tryz.f89, _, Tryz.func89, by kernel_rfl, rfl⟩
theorem lt_t {σ : Nat → Int} {a b : SE} {x y : Int} (ha : a.ev σ = x) (hb : b.ev σ = y) (h : x < y) : (Cnd.lt a b).ev σ = true := by
  show decide (a.ev σ < b.ev σ) = true
  rw [ha, hb]
  exact decide_eq_true h
theorem lt_f {σ : Nat → Int} {a b : SE} {x y : Int} (ha : a.ev σ = x) (hb : b.ev σ = y) (h : y ≤ x) : (Cnd.lt a b).ev σ = false := by
  show decide (a.ev σ < b.ev σ) = false
  rw [ha, hb]
  exact decide_eq_false (by omega)
theorem eq_t {σ : Nat → Int} {a b : SE} {x y : Int} (ha : a.ev σ = x) (hb : b.ev σ = y) (h : x = y) : (Cnd.eq a b).ev σ = true := by
  show (a.ev σ == b.ev σ) = true
  rw [ha, hb]
  exact beq_iff_eq.2 h
theorem eq_f {σ : Nat → Int} {a b : SE} {x y : Int} (ha : a.ev σ = x) (hb : b.ev σ = y) (h : x ≠ y) : (Cnd.eq a b).ev σ = false := by
  show (a.ev σ == b.ev σ) = false
  rw [ha, hb]
  exact beq_eq_false_iff_ne.2 h
theorem rng_ok {σ : Nat → Int} {e : SE} {x a b : Int} (he : e.ev σ = x) (h1 : a ≤ x) (h2 : x < b) : ∀ q ∈ rng e a b, q.1.ev σ = q.2 := by
  intro q hq
  simp only [rng, List.mem_cons, List.not_mem_nil, or_false] at hq
  rcases hq with rfl | rfl
  · exact lt_f he rfl h1
  · exact lt_t he rfl h2
theorem add_ev {σ : Nat → Int} {a b : SE} {x y : Nat} (ha : a.ev σ = (x : Int)) (hb : b.ev σ = (y : Int)) (h : x + y < 100000) : (add a b).ev σ = ((x + y : Nat) : Int) := by
  show IntKind.i64.wrap (a.ev σ + b.ev σ) = _
  rw [ha, hb, i64_small (by omega) (by omega)]
  omega
/-- two known calls more -/
theorem kc_show [Nums] {x e : SE} {i key g : Nat} {n r : Nat} {s : Int} (hx : x.ev Nums.σ = (g : Int)) (hg : g < 18446744073709551616) (he : e.ev Nums.σ = (key : Int)) (hk : key < 18446744073709551616) (hn : Nums.σ i = (n : Int)) (hn2 : n < 16) (hs : showOf g key n = some s) (hr : Nums.σ r = s) :
    KcOk Tryz.prog { f := 102, args := [.sym .u64 x, .sym .u64 e, .sym .i64 (.var i)], res := .tup [.sym .i64 (.var r), .bool true] } := by
  refine kc_pure rfl rfl rfl rfl rfl fn_show fun _ W w m hO => ?_
  rw [show (valsOf Nums.σ [.sym .u64 x, .sym .u64 e, .sym .i64 (.var i)]).toArray = #[.int .u64 (g : Int), .int .u64 (key : Int), .int .i64 (n : Int)] from by simp only [valsOf, Ex.valOf, SE.ev, hx, he, hn]]
  refine (show_ok g key n hg hk hn2 w).mono ?_
  rintro e w' ⟨rfl, rfl⟩
  refine ⟨?_, hO⟩
  unfold showV
  rw [hs]
  simp only [Ex.valOf, valsOf, SE.ev, hr]
theorem kc_headW [Nums] {i j r : Nat} {a b : Int} (ha : Nums.σ i = a) (hb : Nums.σ j = b) (hok : headOk a b) (hr : Nums.σ r = (headW a b : Nat)) :
    KcOk Tryz.prog { f := 89, args := [.sym .i64 (.var i), .sym .i64 (.var j)], res := .tup [.sym .u64 (.var r), .int .i64 0] } := by
  refine kc_pure rfl rfl rfl rfl rfl fn_head fun _ W w m hO => ?_
  rw [show (valsOf Nums.σ [.sym .i64 (.var i), .sym .i64 (.var j)]).toArray = #[.int .i64 a, .int .i64 b] from by simp only [valsOf, Ex.valOf, SE.ev, ha, hb]]
  refine (head_ok a b hok w).mono ?_
  rintro e w' ⟨rfl, rfl⟩
  refine ⟨?_, hO⟩
  simp only [Ex.valOf, valsOf, SE.ev, hr]
/-- the slab that a task knows -/
def Ph.slab : Ph → Nat
  | .p37 s => s
  | .p38 s => s
  | .p39 s => s
  | .p46 s => s
  | .p47 s => s
  | .p48 s => s
  | .p49 s => s
  | .p40 s => s
  | .p41 s => s
  | .p42 s => s
  | .fin s => s
  | _ => 0
/-- what a step sees -/
structure Sf where
  n : Nat
  k : Nat
  m : Mf
  ps : List Ph
  j : Nat
  p : Ph
  cnt : Nat
  ls : Nat → List (List Int)
namespace Sf
def r (x : Sf) : List Int := recP x.k x.j x.p
def way (x : Sf) : FW := match x.p with
  | .p30 => .p30
  | .p31 => .p31
  | .p34 => if x.m.lk = 0 then .p34a else .p34b
  | .p35 => if x.m.tk < x.k then .p35a else .p35b
  | .p36 => .p36
  | .page => .idleP
  | .p37 _ => .p37
  | .p38 _ => .p38
  | .p39 _ => .p39
  | .p46 _ => .p46
  | .p47 _ => .p47
  | .p48 _ => .p48
  | .p49 _ => .p49
  | .p40 _ => .p40
  | .p41 _ => .p41
  | .p42 _ => .p42
  | .fin _ => .idleF
def packF (x : Sf) : Nat := match x.p with
  | .p42 s => headW s (lastI s)
  | _ => packN 5 5 true true
def vS (x : Sf) (i : Nat) : Int :=
  ([(x.n : Int), x.j, x.r.getD 5 0, 0, 0, x.cnt, x.r.getD 2 0, x.r.getD 3 0, x.r.getD 9 0, x.r.getD 10 0, x.r.getD 11 0, x.r.getD 12 0, x.r.getD 4 0, 0, 0, 0, 0, 0, 0, 0, 76 + 4 * (x.n : Int)] ++ List.replicate 12 0 ++ [lastI x.p.slab, (x.packF : Int), 5 - (own x.p.slab : Int)] : List Int).getD i 0
def lS (x : Sf) (q : Nat) : List (List Int) := if q = 0 then one (natsI (gF x.n x.k x.m)) else x.ls q
def σS (x : Sf) : Nat → Int := sg x.vS x.lS
structure Ok (x : Sf) : Prop where
  n0 : 0 < x.n
  n6 : x.n ≤ 6
  k6 : x.k ≤ 6
  cnt : x.cnt < 2000
  inv : InvF x.n x.k x.m x.ps
  at_ : x.ps[x.j]? = some x.p
section
variable {x : Sf} (h : x.Ok)
theorem ev_v {i : Nat} (hi : i < 2048) : (v i).ev x.σS = x.vS i := by
  show sg x.vS x.lS i = _
  rw [sg_v hi]
theorem x0 : (v 0).ev x.σS = (x.n : Int) := ev_v (by omega)
theorem x1 : (v 1).ev x.σS = (x.j : Int) := ev_v (by omega)
theorem x5 : (v 5).ev x.σS = (x.cnt : Int) := ev_v (by omega)
theorem x13 : (v 35).ev x.σS = 5 - (own x.p.slab : Int) := ev_v (by omega)
theorem x14 : (v 14).ev x.σS = 0 := ev_v (by omega)
theorem x15 : (v 15).ev x.σS = 0 := ev_v (by omega)
theorem x20 : (v 20).ev x.σS = ((76 + 4 * x.n : Nat) : Int) := by rw [ev_v (by omega)]; rfl
theorem xlen : (SE.len (.lvar 0)).ev x.σS = ((76 + 4 * x.n : Nat) : Int) := by
  show ((x.σS (ln 0)).toNat : Int) = _
  unfold σS
  rw [sg_oneN (L := natsI (gF x.n x.k x.m)) (by omega) rfl, natsI_len, gF_len]
  rfl
theorem x2 : (v 2).ev x.σS = (x.p.slab : Int) := by
  rw [ev_v (by omega)]
  show x.r.getD 5 0 = _
  unfold r
  cases x.p <;> rfl
include h
theorem jn : x.j < x.n := by rw [← h.inv.len]; exact (List.getElem?_eq_some_iff.1 h.at_).1
theorem ok : x.p.ok x.k x.m := h.inv.ok _ _ h.at_
theorem slab_lt : x.p.slab < 6 := by
  have h1 := ok h
  have h2 := h.inv.tk
  have h3 := h.k6
  generalize x.p = p at h1
  cases p <;> simp only [Ph.ok, Ph.slab] at h1 ⊢ <;> omega
omit h in
/-- a word -/
theorem xw {e : SE} {i : Nat} (he : e.ev x.σS = (i : Int)) (hi : i < 76 + 4 * x.n) : (w e).ev x.σS = (wordF x.n x.k x.m i : Int) := by
  show sg x.vS x.lS (lc 0 (e.ev x.σS).toNat 0) = _
  rw [he, Int.toNat_natCast, sg_one (L := natsI (gF x.n x.k x.m)) (by omega) rfl, List.getD_eq_getElem?_getD]
  unfold natsI
  rw [List.getElem?_map, gF_get hi]
  rfl
/-! places -/
theorem eb : baseE.ev x.σS = ((4 * x.n : Nat) : Int) := by
  have := h.n6
  show IntKind.i64.wrap (4 * (v 0).ev x.σS) = _
  rw [x0, i64_small (by omega) (by omega)]
  omega
theorem ehead : headE.ev x.σS = ((4 * x.j : Nat) : Int) := by
  have := h.n6
  have := jn h
  show IntKind.i64.wrap (4 * (v 1).ev x.σS) = _
  rw [x1, i64_small (by omega) (by omega)]
  omega
theorem epart : partE.ev x.σS = ((4 * x.j + 2 : Nat) : Int) := add_ev (ehead h) (b := l 2) (y := 2) rfl (by have := jn h; have := h.n6; omega)
theorem eshelf : shelfE.ev x.σS = ((4 * x.n + 1 : Nat) : Int) := add_ev (eb h) (b := l 1) (y := 1) rfl (by have := h.n6; omega)
theorem eheld : heldE.ev x.σS = ((4 * x.n + 2 : Nat) : Int) := add_ev (eb h) (b := l 2) (y := 2) rfl (by have := h.n6; omega)
theorem efirst : firstE.ev x.σS = ((4 * x.n + 4 + 4 * x.p.slab : Nat) : Int) := by
  have := h.n6
  have := slab_lt h
  refine add_ev (add_ev (eb h) (b := l 4) (y := 4) rfl (by omega)) ?_ (by omega)
  show IntKind.i64.wrap (4 * (v 2).ev x.σS) = _
  rw [x2, i64_small (by omega) (by omega)]
  omega
theorem enext : nextE.ev x.σS = ((4 * x.n + 4 + 4 * x.p.slab + 2 : Nat) : Int) := add_ev (efirst h) (b := l 2) (y := 2) rfl (by have := slab_lt h; have := h.n6; omega)
theorem efirst1 : (add firstE (l 1)).ev x.σS = ((4 * x.n + 4 + 4 * x.p.slab + 1 : Nat) : Int) := add_ev (efirst h) (b := l 1) (y := 1) rfl (by have := slab_lt h; have := h.n6; omega)
theorem ehead1 : (add headE (l 1)).ev x.σS = ((4 * x.j + 1 : Nat) : Int) := add_ev (ehead h) (b := l 1) (y := 1) rfl (by have := jn h; have := h.n6; omega)
theorem epart1 : (add partE (l 1)).ev x.σS = ((4 * x.j + 3 : Nat) : Int) := add_ev (epart h) (b := l 1) (y := 1) rfl (by have := jn h; have := h.n6; omega)
theorem elink : linkE.ev x.σS = ((4 * x.n + 36 + 5 * x.p.slab : Nat) : Int) := by
  have := h.n6
  have := slab_lt h
  have h1 : (SE.bin .mul (v 2) (l 5)).ev x.σS = ((x.p.slab * 5 : Nat) : Int) := by
    show IntKind.i64.wrap ((v 2).ev x.σS * 5) = _
    rw [x2, i64_small (by omega) (by omega)]
    omega
  have h2 := add_ev (add_ev (add_ev (add_ev (eb h) (b := l 4) (y := 4) rfl (by omega)) (b := l 32) (y := 32) rfl (by omega)) h1 (by omega)) (b := v 15) (y := 0) x15 (by omega)
  refine h2.trans ?_
  omega
theorem ekey : keyE.ev x.σS = (See.keyOf 9 x.p.slab : Int) := by
  have := slab_lt h
  show IntKind.u64.wrap (9 + IntKind.u64.wrap (IntKind.u64.wrap ((v 2).ev x.σS) * 11400714819323198485)) = _
  rw [x2, IntKind.wrap_u64, IntKind.wrap_u64, IntKind.wrap_u64]
  unfold See.keyOf
  omega
theorem wlt : x.p.slab < 8 := by have := slab_lt h; omega
/-! the facts -/
theorem facts_F : ∀ q ∈ fF, q.1.ev x.σS = q.2 := by
  have h0 := h.n0
  have h6 := h.n6
  have hc := h.cnt
  have hj := jn h
  have hs := slab_lt h
  intro q hq
  simp only [fF, List.append_assoc, List.mem_append, List.mem_singleton] at hq
  rcases hq with hq | hq | rfl | hq | hq | hq | hq
  · exact rng_ok x0 (by omega) (by omega) q hq
  · exact rng_ok x1 (by omega) (by omega) q hq
  · exact lt_t x1 x0 (by omega)
  · exact rng_ok x2 (by omega) (by omega) q hq
  · exact rng_ok x5 (by omega) (by omega) q hq
  · exact rng_ok x20 (by omega) (by omega) q hq
  · exact rng_ok xlen (by omega) (by omega) q hq
omit h in
theorem facts_at {pc : Int} (h1 : x.r.getD 2 0 = pc) (h2 : x.r.getD 3 0 = 0) (h3 : x.r.getD 4 0 = 0) : ∀ q ∈ atPc pc, q.1.ev x.σS = q.2 := by
  intro q hq
  simp only [atPc, List.mem_cons, List.not_mem_nil, or_false] at hq
  rcases hq with rfl | rfl | rfl
  · exact eq_t (ev_v (i := 6) (by omega)) (y := pc) rfl h1
  · exact eq_t (ev_v (i := 7) (by omega)) (y := 0) rfl h2
  · exact eq_t (ev_v (i := 12) (by omega)) (y := 0) rfl h3
theorem first_one {s : Nat} (hs : x.p.slab = s) (hc : x.m.cut = s) (hk : s < x.k) : (w firstE).ev x.σS = 1 := by
  have := slab_lt h
  have := h.n6
  rw [xw (efirst h) (by omega), w_first (wlt h), hs, if_pos (by omega)]
  rfl
theorem counts_kw {s : Nat} (hs : x.p.slab = s) (hc : x.m.cut = s) (hk : s < x.k) : (w (add firstE (l 1))).ev x.σS = (kwF s : Int) := by
  have := slab_lt h
  have := h.n6
  rw [xw (efirst1 h) (by omega), w_counts (wlt h), hs, if_pos hk, if_neg (by omega)]
theorem facts_W : ∀ q ∈ x.way.fs, q.1.ev x.σS = q.2 := by
  have h0 := h.n0
  have h6 := h.n6
  have hk6 := h.k6
  have hj := jn h
  have hs := slab_lt h
  have ho := ok h
  have hd := h.inv.hold _ _ h.at_
  have hh := h.inv.head _ _ h.at_
  have htk := h.inv.tk
  have wlk : (w baseE).ev x.σS = (x.m.lk : Int) := by rw [xw (eb h) (by omega), w_lock]
  have wsh : (w shelfE).ev x.σS = ((if x.m.tk < x.k then x.m.tk + 1 else 0 : Nat) : Int) := by rw [xw (eshelf h) (by omega), w_shelf]
  have wnx : (w nextE).ev x.σS = (nextF x.k x.p.slab : Int) := by rw [xw (enext h) (by omega), w_next (wlt h)]
  have at_ : ∀ {pc : Int}, (x.r.getD 2 0 = pc ∧ x.r.getD 3 0 = 0 ∧ x.r.getD 4 0 = 0) → ∀ q ∈ atPc pc, q.1.ev x.σS = q.2 := fun hh => facts_at hh.1 hh.2.1 hh.2.2
  have hr : x.r = recP x.k x.j x.p := rfl
  intro q hq
  unfold way at hq
  cases hp : x.p with
  | p30 =>
    rw [hp] at hq hr
    exact at_ (by rw [hr]; exact ⟨rfl, rfl, rfl⟩) q hq
  | p31 =>
    rw [hp] at hq hr
    exact at_ (by rw [hr]; exact ⟨rfl, rfl, rfl⟩) q hq
  | p34 =>
    rw [hp] at hq hr
    simp only at hq
    split at hq
    · rename_i hl
      rcases List.mem_append.1 hq with hq | hq
      · exact at_ (by rw [hr]; exact ⟨rfl, rfl, rfl⟩) q hq
      · rw [List.mem_singleton] at hq
        subst hq
        exact eq_t wlk rfl (by show (x.m.lk : Int) = 0; omega)
    · rename_i hl
      rcases List.mem_append.1 hq with hq | hq
      · exact at_ (by rw [hr]; exact ⟨rfl, rfl, rfl⟩) q hq
      · rw [List.mem_singleton] at hq
        subst hq
        exact eq_f wlk (y := 0) rfl (by omega)
  | p35 =>
    rw [hp] at hq hr
    simp only at hq
    split at hq
    · rename_i hl
      rw [if_pos hl] at wsh
      simp only [FW.fs, List.append_assoc, List.mem_append, List.mem_singleton] at hq
      rcases hq with hq | hq | rfl
      · exact at_ (by rw [hr]; exact ⟨rfl, rfl, rfl⟩) q hq
      · exact rng_ok wsh (by omega) (by omega) q hq
      · exact eq_f wsh (y := 0) rfl (by omega)
    · rename_i hl
      rw [if_neg hl] at wsh
      rcases List.mem_append.1 hq with hq | hq
      · exact at_ (by rw [hr]; exact ⟨rfl, rfl, rfl⟩) q hq
      · rw [List.mem_singleton] at hq
        subst hq
        exact eq_t wsh (y := 0) rfl rfl
  | p36 =>
    rw [hp] at hq hr
    exact at_ (by rw [hr]; exact ⟨rfl, rfl, rfl⟩) q hq
  | page =>
    rw [hp] at hq hr
    simp only [FW.fs, List.mem_cons, List.not_mem_nil, or_false] at hq
    rcases hq with rfl | rfl | rfl
    · exact eq_t (ev_v (i := 6) (by omega)) (y := 43) rfl (by show x.r.getD 2 0 = 43; rw [hr]; rfl)
    · exact eq_t (ev_v (i := 7) (by omega)) (y := 0) rfl (by show x.r.getD 3 0 = 0; rw [hr]; rfl)
    · exact eq_f (ev_v (i := 12) (by omega)) (y := 0) rfl (by show x.r.getD 4 0 ≠ 0; rw [hr]; show (1 : Int) ≠ 0; omega)
  | p37 s =>
    rw [hp] at hq hr ho hd
    obtain ⟨h1, h2⟩ := ho
    have h3 := (hd rfl).2.1
    have h3 : x.m.cut = x.m.tk := h3
    rcases List.mem_append.1 hq with hq | hq
    · exact at_ (by rw [hr]; exact ⟨rfl, rfl, rfl⟩) q hq
    · exact rng_ok (first_one h (s := s) (by rw [hp]; rfl) (by omega) h2) (by omega) (by omega) q hq
  | p38 s =>
    rw [hp] at hq hr
    exact at_ (by rw [hr]; exact ⟨rfl, rfl, rfl⟩) q hq
  | p39 s =>
    rw [hp] at hq hr ho hd
    obtain ⟨h1, h2⟩ := ho
    have h3 := (hd rfl).2.1
    have h3 : x.m.cut = x.m.tk := h3
    have x8 : (v 8).ev x.σS = 1 := by rw [ev_v (by omega)]; show x.r.getD 9 0 = 1; rw [hr]; rfl
    have x9 : (v 9).ev x.σS = (kwF s : Int) := by rw [ev_v (by omega)]; show x.r.getD 10 0 = _; rw [hr]; rfl
    simp only [FW.fs, List.append_assoc, List.mem_append, List.mem_cons, List.not_mem_nil, or_false] at hq
    rcases hq with hq | hq | rfl | rfl
    · exact at_ (by rw [hr]; exact ⟨rfl, rfl, rfl⟩) q hq
    · exact rng_ok x8 (by omega) (by omega) q hq
    · exact eq_t (first_one h (s := s) (by rw [hp]; rfl) (by omega) h2) x8 rfl
    · exact eq_t (counts_kw h (s := s) (by rw [hp]; rfl) (by omega) h2) x9 rfl
  | p46 s =>
    rw [hp] at hq hr
    rcases List.mem_append.1 hq with hq | hq
    · exact at_ (by rw [hr]; exact ⟨rfl, rfl, rfl⟩) q hq
    · refine rng_ok wnx (by omega) ?_ q hq
      unfold nextF
      split <;> omega
  | p47 s =>
    rw [hp] at hq hr
    exact at_ (by rw [hr]; exact ⟨rfl, rfl, rfl⟩) q hq
  | p48 s =>
    rw [hp] at hq hr
    exact at_ (by rw [hr]; exact ⟨rfl, rfl, rfl⟩) q hq
  | p49 s =>
    rw [hp] at hq hr
    exact at_ (by rw [hr]; exact ⟨rfl, rfl, rfl⟩) q hq
  | p40 s =>
    have x3 : (v 33).ev x.σS = lastI x.p.slab := ev_v (by omega)
    have hl : lastI x.p.slab = 1 ∨ lastI x.p.slab = -1 := by unfold lastI; split <;> simp
    rw [hp] at hq hr
    simp only [FW.fs, List.append_assoc, List.mem_append, List.mem_cons, List.not_mem_nil, or_false] at hq
    rcases hq with hq | hq | hq | rfl | rfl | rfl
    · exact at_ (by rw [hr]; exact ⟨rfl, rfl, rfl⟩) q hq
    · exact rng_ok x15 (by omega) (by omega) q hq
    · exact rng_ok x3 (by omega) (by omega) q hq
    · refine lt_f (x := ((76 + 4 * x.n : Nat) : Int) - 1) ?_ (elink h) (by omega)
      show IntKind.i64.wrap ((v 20).ev x.σS - 1) = _
      rw [x20, i64_small (by omega) (by omega)]
    · exact lt_t (elink h) x20 (by omega)
    · exact lt_t (elink h) xlen (by omega)
  | p41 s =>
    rw [hp] at hq hr
    exact at_ (by rw [hr]; exact ⟨rfl, rfl, rfl⟩) q hq
  | p42 s =>
    have w0 : (w headE).ev x.σS = 0 := by rw [xw (ehead h) (by omega), w_head hj, hh.1, hp]; rfl
    have w1 : (w (add headE (l 1))).ev x.σS = 0 := by rw [xw (ehead1 h) (by omega), w_turn hj, hh.2, hp]; rfl
    rw [hp] at hq hr
    simp only [FW.fs, List.mem_append, List.mem_cons, List.not_mem_nil, or_false] at hq
    rcases hq with hq | rfl | rfl
    · exact at_ (by rw [hr]; exact ⟨rfl, rfl, rfl⟩) q hq
    · exact eq_t w0 (y := 0) rfl rfl
    · exact eq_t w1 x14 rfl
  | fin s =>
    rw [hp] at hq hr
    simp only [FW.fs, List.mem_cons, List.not_mem_nil, or_false] at hq
    rcases hq with rfl | rfl
    · exact eq_t (ev_v (i := 6) (by omega)) (y := 42) rfl (by show x.r.getD 2 0 = 42; rw [hr]; rfl)
    · exact eq_f (ev_v (i := 7) (by omega)) (y := 0) rfl (by show x.r.getD 3 0 ≠ 0; rw [hr]; show (1 : Int) ≠ 0; omega)
theorem facts_X : ∀ q ∈ x.way.fx, q.1.ev x.σS = q.2 := fun q hq => by
  rcases List.mem_append.1 hq with hq | hq
  · exact facts_W h q hq
  · exact facts_F h q hq
end
end Sf
end Go.Proofs.YtcbljokbechppaaGreatDoor.Fil
