import Derived.Test.YthjjpmoifgcepaaGreatJhJhC
import Derived.Test.YthjjpmoifgcepaaGreatJh1
import Derived.Deep.RegionLaw
import Derived.Deep.RegionWith
import Derived.Deep.RegionHeld3
import Derived.Deep.DeepCutAuto
import Derived.Deep.CutBlock
/-
  wainscotlaw30.copySnap: what stays readable; copies as calls. No condition.
-/
namespace Go.Proofs.YthjjpmoifgcepaaGreat.Jh
open Go.RowKit
abbrev ca14 (a : Ca) (sv : Value) : Array Value := #[.int .i64 (a.f 0), .int .i64 (a.f 1), .int .i64 (a.f 2), .int .i64 (a.f 3), .bool a.live, .int .i64 (a.f 5), sv, .int .i64 (a.f 7), .int .i64 (a.f 8), .int .i64 (a.f 9), .int .i64 (a.f 10), .int .i64 (a.f 11), .int .i64 (a.f 12), .int .i64 (a.f 13)]
abbrev dd6 (d : Dd) (sv : Value) : Array Value := #[.int .i64 d.cpu, .int .i64 d.op, .int .i64 d.fr, .int .i64 d.tp, .int .i64 d.e, sv]
/-- so it reads wherever these blocks stand -/
def Kp (M : List (Nat × Obj)) (R : World → Prop) : Prop := ∀ ws, (∀ p ∈ M, ws.heap[p.1]? = some p.2) → R ws
section
variable {M M' m : List (Nat × Obj)} {R R' : World → Prop} {W w : World}
theorem Kp.mono (h : Kp M R) (hs : ∀ p ∈ M, p ∈ M') : Kp M' R := fun ws hw => h ws fun p hp => hw p (hs p hp)
theorem Kp.left (h : Kp M R) (bs : List (Nat × Obj)) : Kp (bs ++ M) R := h.mono fun _ hp => List.mem_append_right _ hp
theorem Kp.of (h : Kp M R) (hO : Own W m w) (hs : ∀ p ∈ M, p ∈ m) : R w := h w fun p hp => (hO.at_ p (hs p hp)).2
end
theorem cell_heap {w : World} {g i : Nat} {cs : Array Value} {t : TypeId} (h : w.heap[g]? = some (.cells cs t)) : w.cell? ⟨g, i, none⟩ = cs[i]? := by simp [World.cell?, h]
theorem slo_kp {e size n : Nat} {v : Value} {xs : List Value} {bs : List (Nat × Obj)} (h : SlO true e size v n xs bs) : Kp bs fun ws => Src ws size v n xs := fun ws hw => by
  refine ⟨h.1, ?_⟩
  rcases h.2 with ⟨rfl, rfl, _⟩ | ⟨g, cap, cur, rfl, rfl, h1, h2, h3, h4⟩
  · exact .inl ⟨rfl, rfl⟩
  · refine .inr ⟨_, _, rfl, fun j u hj => ?_⟩
    rw [add_lit0, cell_heap (hw _ List.mem_cons_self)]
    rw [← h4, List.getElem?_take] at hj
    split at hj
    · simpa using hj
    · cases hj
/-- a copy, by its call -/
theorem copyC {W w : World} {m : List (Nat × Obj)} {v : Value} {L : List Int} (h : Own W m w) (hv : IntsB W v L) :
    Calls Tryz.prog 14 #[v] w fun e w' => ∃ A c bs, e = .returned (.slice A L.length c) ∧ Hid (Kp bs fun ws => IntsB ws (.slice A L.length c) L) ∧ Hid (Own W (bs ++ m) w') := by
  refine (copyB h hv).mono ?_
  rintro e w' ⟨v', bs, rfl, h1, h2⟩
  obtain ⟨A, c, rfl, _, _⟩ := SlO.slice h1.out
  exact ⟨A, c, bs, rfl, Lib.hid fun ws hw => ⟨slo_kp h1.out ws hw, hv.2⟩, Lib.hid h2⟩
/-- a struct of twelve cells -/
abbrev sn12 (n0 : Int) (x1 x2 x3 x4 x5 x6 x7 x8 x9 x10 x11 : Value) : Array Value := #[.int .i64 n0, x1, x2, x3, x4, x5, x6, x7, x8, x9, x10, x11]
section
variable {W w : World} {m : List (Nat × Obj)} {b : Nat} {t : TypeId} {n0 : Int} {x1 x2 x3 x4 x5 x6 x7 x8 x9 x10 x11 y : Value}
theorem box12 (h : Own W ((b, .cells (sn12 n0 x1 x2 x3 x4 x5 x6 x7 x8 x9 x10 x11) t) :: m) w) :
    (w.cell? ⟨b, 0, none⟩ = some (.int .i64 n0) ∧ w.cell? ⟨b, 1, none⟩ = some x1 ∧ w.cell? ⟨b, 2, none⟩ = some x2 ∧ w.cell? ⟨b, 3, none⟩ = some x3 ∧ w.cell? ⟨b, 4, none⟩ = some x4 ∧ w.cell? ⟨b, 5, none⟩ = some x5 ∧ w.cell? ⟨b, 6, none⟩ = some x6 ∧ w.cell? ⟨b, 7, none⟩ = some x7 ∧ w.cell? ⟨b, 8, none⟩ = some x8 ∧ w.cell? ⟨b, 9, none⟩ = some x9 ∧ w.cell? ⟨b, 10, none⟩ = some x10 ∧ w.cell? ⟨b, 11, none⟩ = some x11) ∧ ∀ i, w.frozen? ⟨b, i, none⟩ = false :=
  ⟨⟨h.cell List.mem_cons_self 0, h.cell List.mem_cons_self 1, h.cell List.mem_cons_self 2, h.cell List.mem_cons_self 3, h.cell List.mem_cons_self 4, h.cell List.mem_cons_self 5, h.cell List.mem_cons_self 6, h.cell List.mem_cons_self 7, h.cell List.mem_cons_self 8, h.cell List.mem_cons_self 9, h.cell List.mem_cons_self 10, h.cell List.mem_cons_self 11⟩, fun i => h.frozen List.mem_cons_self i⟩
/-- a box: one cell, by its place -/
theorem box_at {n : Nat} {cs : Array Value} (h : Own W ((b, .cells cs t) :: m) w) {u : Value} (hu : cs[n]? = some u) : w.cell? ⟨b, n, none⟩ = some u ∧ w.frozen? ⟨b, n, none⟩ = false := ⟨(h.cell List.mem_cons_self n).trans hu, h.frozen List.mem_cons_self n⟩
theorem box14 {a : Ca} {sv : Value} (h : Own W ((b, .cells (ca14 a sv) t) :: m) w) :
    w.cell? ⟨b, 0, none⟩ = some (.int .i64 (a.f 0)) ∧ w.cell? ⟨b, 1, none⟩ = some (.int .i64 (a.f 1)) ∧ w.cell? ⟨b, 2, none⟩ = some (.int .i64 (a.f 2)) ∧ w.cell? ⟨b, 3, none⟩ = some (.int .i64 (a.f 3)) ∧ w.cell? ⟨b, 4, none⟩ = some (.bool a.live) ∧ w.cell? ⟨b, 5, none⟩ = some (.int .i64 (a.f 5)) ∧ w.cell? ⟨b, 6, none⟩ = some sv ∧ w.cell? ⟨b, 7, none⟩ = some (.int .i64 (a.f 7)) ∧ w.cell? ⟨b, 8, none⟩ = some (.int .i64 (a.f 8)) ∧ w.cell? ⟨b, 9, none⟩ = some (.int .i64 (a.f 9)) ∧ w.cell? ⟨b, 10, none⟩ = some (.int .i64 (a.f 10)) ∧ w.cell? ⟨b, 11, none⟩ = some (.int .i64 (a.f 11)) ∧ w.cell? ⟨b, 12, none⟩ = some (.int .i64 (a.f 12)) ∧ w.cell? ⟨b, 13, none⟩ = some (.int .i64 (a.f 13)) :=
  ⟨h.cell List.mem_cons_self 0, h.cell List.mem_cons_self 1, h.cell List.mem_cons_self 2, h.cell List.mem_cons_self 3, h.cell List.mem_cons_self 4, h.cell List.mem_cons_self 5, h.cell List.mem_cons_self 6, h.cell List.mem_cons_self 7, h.cell List.mem_cons_self 8, h.cell List.mem_cons_self 9, h.cell List.mem_cons_self 10, h.cell List.mem_cons_self 11, h.cell List.mem_cons_self 12, h.cell List.mem_cons_self 13⟩
theorem boxD {d : Dd} {sv : Value} (h : Own W ((b, .cells (dd6 d sv) t) :: m) w) :
    w.cell? ⟨b, 0, none⟩ = some (.int .i64 d.cpu) ∧ w.cell? ⟨b, 1, none⟩ = some (.int .i64 d.op) ∧ w.cell? ⟨b, 2, none⟩ = some (.int .i64 d.fr) ∧ w.cell? ⟨b, 3, none⟩ = some (.int .i64 d.tp) ∧ w.cell? ⟨b, 4, none⟩ = some (.int .i64 d.e) ∧ w.cell? ⟨b, 5, none⟩ = some sv :=
  ⟨h.cell List.mem_cons_self 0, h.cell List.mem_cons_self 1, h.cell List.mem_cons_self 2, h.cell List.mem_cons_self 3, h.cell List.mem_cons_self 4, h.cell List.mem_cons_self 5⟩
theorem own_mid {bs : List (Nat × Obj)} {p : Nat × Obj} (h : Own W (bs ++ p :: m) w) : Own W (p :: (bs ++ m)) w := h.perm List.perm_middle
theorem own_mid2 {bs : List (Nat × Obj)} {p q : Nat × Obj} (h : Own W (bs ++ p :: q :: m) w) : Own W (p :: q :: (bs ++ m)) w := (own_mid h).perm (List.Perm.cons _ List.perm_middle)
end
section
variable {P : Program} {W w : World} {m bs : List (Nat × Obj)} {e n size bytes : Nat} {v : Value} {xs news : List Value} {z : Value}
theorem bb_max {n k : Nat} (h : n * k ≤ BB) (hk : 0 < k) : n ≤ maxLen := by
  have h1 := bb_le h
  have h2 : n * 1 ≤ n * k := Nat.mul_le_mul_left _ hk
  unfold maxLen
  omega
/-- one struct is appended, at a step of a region that draws -/
theorem step_app1 {ops : Array Oper} {o : Oper} {a : Act} {K : Act → World → Prop} {Q : Exit → Act → World → Prop} {E : Prop} (hgd : o.guard = none) (s x : Operand) (t : TypeId)
    (ho : o.op = .call { callee := .builtin .append, args := #[s, x], argTypes := #[t, t] }) {xv : Value} (hes : a.eval s = v) (hex : a.eval x = xv)
    (e : TypeId) (ht : P.underlying t = some (.slice e)) (hinfo : (P.info? e).map (fun i => (i.zero, i.size, i.bytes)) = some (some z, size, bytes)) (hzs : z.cells.size = size) (hsz : 0 < size) (hby : 0 < bytes)
    (hs : SlOwn e size v n xs bs) (hO : Own W (bs ++ m) w) (hx : Src w size xv 1 news) (h1 : ∀ u ∈ news, u.oneCell' = true) (hlen : (n + 1) * bytes ≤ BB)
    (h : ∀ A c w' bs', SlOwn e size (.slice A (n + 1) c) (n + 1) (xs ++ news) bs' → Own W (bs' ++ m) w' → K (a.put o.dst (.slice A (n + 1) c)) w') :
    if Region.wanted o (yielded ops a.tmps) = true then Oper.wp P o a w K Q else E := by
  obtain ⟨i, hi, hz, hsize, hb⟩ := info_get hinfo
  have hB := bb_le hlen
  refine step_app hgd s x t ho hes hex e i z size bytes ht hi hz hsize hb hzs hsz hs hO hx h1 (bb_max hlen hby) (by omega) fun v' w' bs' k1 k2 => ?_
  obtain ⟨A, c, rfl, _, _⟩ := SlO.slice k1
  exact h A c w' bs' k1 k2
/-- .. in the order of the text -/
theorem wpList_app1 {ops : Array Oper} {rest : List Oper} {o : Oper} {a : Act} {Q : Exit → Act → World → Prop} (hgd : o.guard = none) (s x : Operand) (t : TypeId)
    (ho : o.op = .call { callee := .builtin .append, args := #[s, x], argTypes := #[t, t] }) {xv : Value} (hes : a.eval s = v) (hex : a.eval x = xv)
    (e : TypeId) (ht : P.underlying t = some (.slice e)) (hinfo : (P.info? e).map (fun i => (i.zero, i.size, i.bytes)) = some (some z, size, bytes)) (hzs : z.cells.size = size) (hsz : 0 < size) (hby : 0 < bytes)
    (hs : SlOwn e size v n xs bs) (hO : Own W (bs ++ m) w) {k : Nat} (hx : Src w size xv k news) (h1 : ∀ u ∈ news, u.oneCell' = true) (hlen : (n + k) * bytes ≤ BB)
    (h : ∀ A c w' bs', SlOwn e size (.slice A (n + k) c) (n + k) (xs ++ news) bs' → Own W (bs' ++ m) w' → wpList P ops Q rest (a.put o.dst (.slice A (n + k) c)) w') :
    wpList P ops Q (o :: rest) a w := by
  obtain ⟨i, hi, hz, hsize, hb⟩ := info_get hinfo
  have hB := bb_le hlen
  refine wpList_app hgd s x t ho hes hex e i z size bytes ht hi hz hsize hb hzs hsz hs hO hx h1 (bb_max hlen hby) (by omega) fun v' w' bs' k1 k2 _ => ?_
  obtain ⟨A, c, rfl, _, _⟩ := SlO.slice k1
  exact h A c w' bs' k1 k2
end
/-- rows whose slices stay readable -/
def RowsK (M : List (Nat × Obj)) (svs : List Value) (L : List (List Int)) : Prop := ∀ (j : Nat) sv p, svs[j]? = some sv → L[j]? = some p → Kp M fun ws => IntsB ws sv p
theorem RowsK.left {M : List (Nat × Obj)} {svs : List Value} {L : List (List Int)} (h : RowsK M svs L) (bs : List (Nat × Obj)) : RowsK (bs ++ M) svs L := fun j sv p hj hp => (h j sv p hj hp).left bs
theorem RowsK.snoc {M bs : List (Nat × Obj)} {svs : List Value} {L : List (List Int)} {sv : Value} {p : List Int} (h : RowsK M svs L) (hp : L[svs.length]? = some p) (hk : Kp bs fun ws => IntsB ws sv p) : RowsK (bs ++ M) (svs ++ [sv]) L := fun j sv' p' hj hp' => by
  by_cases hlt : j < svs.length
  · rw [List.getElem?_append_left hlt] at hj
    exact (h j sv' p' hj hp').left bs
  · have hl := (List.getElem?_eq_some_iff.1 hj).1
    rw [List.length_append, List.length_singleton] at hl
    obtain rfl : j = svs.length := by omega
    rw [List.getElem?_append_right (Nat.le_refl _), Nat.sub_self] at hj
    simp only [List.getElem?_cons_zero, Option.some.injEq] at hj
    subst hj
    rw [hp] at hp'
    cases hp'
    exact hk.mono fun _ hp => List.mem_append_left _ hp
theorem zip_snoc {β : Type} {mk : β → Value → List Value} : ∀ {L : List β} {svs : List Value} {b : β} {sv : Value}, L[svs.length]? = some b → List.zipWith mk L (svs ++ [sv]) = List.zipWith mk L svs ++ [mk b sv]
  | [], _, _, _, h => by simp at h
  | a :: L, [], b, sv, h => by
    simp only [List.length_nil, List.getElem?_cons_zero, Option.some.injEq] at h
    subst h
    simp
  | a :: L, s :: svs, b, sv, h => by
    rw [List.cons_append, List.zipWith_cons_cons, List.zipWith_cons_cons, List.cons_append, zip_snoc (L := L) (by simpa using h)]
/-- the rows that were appended -/
theorem rows_kp {β : Type} {mk : β → Value → List Value} {e size k bytes : Nat} {M bs0 : List (Nat × Obj)} {v : Value} (hlen : ∀ b s, (mk b s).length = size) (hk : ∀ b s, (mk b s)[k]? = some s) (hone : ∀ b s, s.oneCell' = true → ∀ u ∈ mk b s, u.oneCell' = true)
    {L : List β} {svs : List Value} {Ls : List (List Int)} (hl : svs.length = L.length) (hL : Ls.length = L.length) (HS : SlO true e size v L.length (List.zipWith mk L svs).flatten bs0) (HK : RowsK M svs Ls) (hb : L.length * bytes ≤ BB) : Kp (bs0 ++ M) fun ws => RowsI ws size k bytes v (List.zipWith mk L svs) Ls := fun ws hw => by
  have hzl : (List.zipWith mk L svs).length = L.length := by rw [List.length_zipWith, hl, Nat.min_self]
  have hs := slo_kp HS ws fun p hp => hw p (List.mem_append_left _ hp)
  have hz : ∀ r ∈ List.zipWith mk L svs, ∃ (i : Nat) (b : β) (s : Value), svs[i]? = some s ∧ r = mk b s := fun r hr => by
    obtain ⟨i, hi, rfl⟩ := List.getElem_of_mem hr
    rw [hzl] at hi
    refine ⟨i, L[i], svs[i]'(by omega), List.getElem?_eq_getElem (by omega), ?_⟩
    rw [List.getElem_zipWith]
  refine ⟨⟨by rw [hzl]; exact hs, fun r hr => ?_, fun r hr u hu => ?_⟩, by rw [hzl, hL], by rw [hzl]; exact hb, fun i r l hr hl' => ?_⟩
  · obtain ⟨i, b, s, _, rfl⟩ := hz r hr
    exact hlen b s
  · obtain ⟨i, b, s, hsv, rfl⟩ := hz r hr
    refine hone b s ?_ u hu
    have hi := (List.getElem?_eq_some_iff.1 hsv).1
    obtain ⟨p, hp⟩ : ∃ p, Ls[i]? = some p := ⟨_, List.getElem?_eq_getElem (by omega)⟩
    obtain ⟨A, c, rfl⟩ := (HK i s p hsv hp ws fun p hp => hw p (List.mem_append_right _ hp)).form
    rfl
  · have hi := (List.getElem?_eq_some_iff.1 hr).1
    rw [hzl] at hi
    obtain ⟨s, hs'⟩ : ∃ s, svs[i]? = some s := ⟨_, List.getElem?_eq_getElem (by omega)⟩
    rw [List.getElem?_zipWith, List.getElem?_eq_getElem hi, hs'] at hr
    simp only [Option.some.injEq] at hr
    subst hr
    exact ⟨s, hk _ _, HK i s l hs' hl' ws fun p hp => hw p (List.mem_append_right _ hp)⟩
theorem keep_set {w : World} {b n B i : Nat} {v u : Value} (h : w.cell? ⟨B, i, none⟩ = some u) (hne : B ≠ b) : (w.setCell ⟨b, n, none⟩ v).cell? ⟨B, i, none⟩ = some u := (World.cell?_of_block (Below.heap_setCell _ _ _ _ hne)).trans h
/-- one struct that the code writes down -/
theorem src_row (w : World) (e : TypeId) (cs : Array Value) : Src (w.alloc (.cells cs e)) cs.size (.slice (some ⟨w.heap.size, 0, none⟩) 1 1) 1 cs.toList := by
  refine ⟨by simp, .inr ⟨_, _, rfl, fun j u hj => ?_⟩⟩
  rw [add_lit0]
  simp at hj
  simp [hj]
theorem own_in {W w : World} {a b m : List (Nat × Obj)} (h : Own W (a ++ (b ++ m)) w) : Own W (b ++ (a ++ m)) w := h.swap
theorem own_in3 {W w : World} {a b m : List (Nat × Obj)} {p q : Nat × Obj} (h : Own W (a ++ (b ++ (p :: q :: m))) w) : Own W (b ++ (p :: q :: (a ++ m))) w := by
  refine h.perm ?_
  classical
  rw [List.perm_iff_count]
  intro x
  simp only [List.count_append, List.count_cons]
  omega
end Go.Proofs.YthjjpmoifgcepaaGreat.Jh
