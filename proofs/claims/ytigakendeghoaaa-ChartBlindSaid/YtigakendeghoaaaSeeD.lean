/-
  Contract: the objects of a list (link.List). No condition.
-/
import Derived.Test.YtigakendeghoaaaSeeC
import Derived.Test.YtigakendeghoaaaInts
import Derived.WalkMore
namespace Go.Proofs.Ytigakendeghoaaa.See
open Go.RowKit
attribute [local go_sem ↓] Go.wp_at_zero Go.wp_at_succ
/-- words that are read, whatever else there is -/
def Rd (W : World) (m : List (Nat × Obj)) (B o : Nat) (g : List Nat) : Prop := ∀ ws, Own W m ws → ∀ (j : Nat) (x : Nat), g[j]? = some x → ws.cell? ⟨B, o + j, none⟩ = some (.int .u64 (x : Int))
theorem Rd.more {W : World} {m m' : List (Nat × Obj)} {B o : Nat} {g : List Nat} (h : Rd W m B o g) : Rd W (m' ++ m) B o g := fun ws hw j x hj => h ws hw.dropL j x hj
/-- which objects are out -/
def hadRow (out : List Int) : Array Value := ((List.range 16).map fun (i : Nat) => Value.bool (decide ((i : Int) ∈ out))).toArray
theorem hadRow_get (out : List Int) {i : Nat} (h : i < 16) : (hadRow out)[i]? = some (.bool (decide ((i : Int) ∈ out))) := by simp [hadRow, h]
theorem hadRow_set (out : List Int) {i : Nat} (h : i < 16) : (hadRow out).setIfInBounds i (.bool true) = hadRow (out ++ [(i : Int)]) := by
  apply Array.ext_getElem?
  intro j
  rw [Array.getElem?_setIfInBounds]
  by_cases hj : j < 16
  · rw [hadRow_get _ hj]
    by_cases hx : i = j
    · subst hx; simp [hadRow, h]
    · rw [if_neg hx, hadRow_get _ hj]
      have : ¬ (j : Int) = (i : Int) := fun e => hx (by omega)
      simp [this]
  · rw [if_neg (by omega), Array.getElem?_eq_none (by simp [hadRow]; omega), Array.getElem?_eq_none (by simp [hadRow]; omega)]
def slLen : Value → Nat
  | .slice _ n _ => n
  | _ => 0
def shW (key : Nat) (w : Nat) (o : Int) : Option Int := showOf w key o.toNat
section
variable {W w : World} {m : List (Nat × Obj)} {B o c : Nat} {g : List Nat}
/-- what List answers -/
def ListPost (W : World) (m : List (Nat × Obj)) (r : Option (List Int)) (e : Ending) (w' : World) : Prop := match r with
  | some l => ∃ v bs, e = .returned (.tuple #[v, .int .i64 0]) ∧ Hid (IntsOwn true v l bs) ∧ Own W (bs ++ m) w'
  | none => e = .returned (.tuple #[.slice none 0 0, .int .i64 150]) ∧ Own W m w'
set_option maxRecDepth 100000 in
set_option maxHeartbeats 2000000 in
theorem list_spec (h : Own W m w) (hr : Rd W m B o g) {n : Nat} (hn : g.length = n) (hg : n ≤ 16) (hw : W64 g) (hnc : n ≤ c) (hcm : c ≤ maxLen) (key : Nat) (hk : key < 18446744073709551616) (first : Int) (h0 : -1 ≤ first) (h1 : first < n) :
    Calls Try.prog 103 #[.slice (some ⟨B, o, none⟩) n c, .int .u64 key, .int .i64 first] w (ListPost W m (walk (shW key) g (n + 1) [] first)) := by
  obtain ⟨R, hR⟩ : ∃ R, walk (shW key) g (n + 1) [] first = R := ⟨_, rfl⟩
  have HR := Lib.hid hR
  have HRD := Lib.hid hr
  have HN := Lib.hid hn
  have HW := Lib.hid hw
  have HK := Lib.hid hk
  have HC := Lib.hid hcm
  rw [hR]
  have hgi : (n : Int) ≤ 16 := by omega
  have hb1 : decide ((16 : Int) < (n : Int)) = false := decide_eq_false (by omega)
  have hb2 : decide (first < -1) = false := decide_eq_false (by omega)
  have hb3 : decide ((n : Int) ≤ first) = false := decide_eq_false (by omega)
  clear hr hn hw hk hcm hR
  go_enter Try.func103, Try.ntmps103
  go_wp2_with fail
  go_step3
  go_wp2_with fail
  go_step3
  go_wp2_with fail
  have h1 : Own W ([(w.heap.size, .cells (hadRow []) 143)] ++ m) (w.alloc (.cells #[.bool false, .bool false, .bool false, .bool false, .bool false, .bool false, .bool false, .bool false, .bool false, .bool false, .bool false, .bool false, .bool false, .bool false, .bool false, .bool false] 143)) := h.new (.cells (hadRow []) 143)
  obtain ⟨d, hd⟩ : ∃ d, w.heap.size = d := ⟨_, rfl⟩
  obtain ⟨wa, hwa⟩ : ∃ wa, w.alloc (.cells #[.bool false, .bool false, .bool false, .bool false, .bool false, .bool false, .bool false, .bool false, .bool false, .bool false, .bool false, .bool false, .bool false, .bool false, .bool false, .bool false] 143) = wa := ⟨_, rfl⟩
  rw [hwa, hd] at h1
  rw [hwa, hd]
  have H1 := Lib.hid h1
  clear h1 hd hwa hb1 hb2 hb3
  go_loopw [2, 9] (fun iv ov wr => ∃ (i : Int) (out : List Int) (bs : List (Nat × Obj)), iv = .int .i64 i ∧ -1 ≤ i ∧ i < n ∧ Hid (out.Nodup ∧ ∀ x ∈ out, 0 ≤ x ∧ x < n) ∧ Hid (walk (shW key) g (n + 1 - out.length) out i = R) ∧ Hid (IntsOwn true ov out bs) ∧ Own W ([(d, .cells (hadRow out) 143)] ++ (bs ++ m)) wr) (fun _ ov _ => 17 - slLen ov)
  case atStart => exact ⟨first, [], [], rfl, h0, h1, ⟨List.nodup_nil, fun x hx => (by simp at hx)⟩, HR, SlO.nil _ _ _, H1.out⟩
  case round =>
    clear H1 HR h0 h1 h
    obtain ⟨i, out, bs, rfl, i0, i1, HND, HWK, HO, hr⟩ := hrel
    obtain ⟨A8, c8, hv, -, -⟩ := HO.out.slice
    subst hv
    have hfew := few HND.out.1 HND.out.2
    obtain ⟨z, hz⟩ : ∃ z, out.length = z := ⟨_, rfl⟩
    have HZ := Lib.hid hz
    rw [hz] at hfew ⊢
    by_cases him : i = -1
    · subst him
      have hk := HWK.out
      rw [hz, show n + 1 - z = (n - z) + 1 by omega] at hk
      simp only [walk, if_true] at hk
      have HK2 := Lib.hid hk
      clear hz hk
      go_wp2_with fail
      rw [Exit.noGoto_ret]
      go_ret2
      rw [← HK2.out]
      exact ⟨_, bs, rfl, by have := HO.out; rw [HZ.out] at this; exact this, hr.dropL⟩
    · have hib : (i == -1) = false := beq_eq_false_iff_ne.2 him
      obtain ⟨j, rfl⟩ : ∃ j : Nat, i = j := ⟨i.toNat, by omega⟩
      have hj16 : j < 16 := by omega
      have cj := hr.cell List.mem_cons_self j
      have fj := hr.frozen List.mem_cons_self j
      rw [hadRow_get _ hj16] at cj
      have hji0 : (0 : Int) ≤ (j : Int) := by omega
      have hji1 : (j : Int) < 16 := by omega
      by_cases hin : (j : Int) ∈ out
      · rw [decide_eq_true hin] at cj
        have hk := HWK.out
        rw [hz, show n + 1 - z = (n - z) + 1 by omega] at hk
        simp only [walk, him, hin, if_false, if_true] at hk
        have HK2 := Lib.hid hk
        clear hz hk
        go_wp2_with fail
        rw [Exit.noGoto_ret]
        go_ret2
        rw [← HK2.out]
        exact ⟨rfl, hr.dropL.dropL⟩
      · rw [decide_eq_false hin] at cj
        obtain ⟨x, hx⟩ : ∃ x, g[j]? = some x := ⟨_, List.getElem?_eq_getElem (by have := HN.out; omega)⟩
        have hxw := HW.out x (List.mem_of_getElem? hx)
        have hgd : g.getD j 0 = x := by rw [List.getD_eq_getElem?_getD, hx]; rfl
        have hlt := few_lt HND.out.1 HND.out.2 hji0 i1 hin
        rw [hz] at hlt
        have hsh := fun w => show_ok x key j hxw HK.out hj16 w
        have hk := HWK.out
        rw [hz, show n + 1 - z = (n - z) + 1 by omega] at hk
        simp only [walk, him, hin, if_false, Int.toNat_natCast, hgd, shW, HN.out] at hk
        have hr2 : Own W ((d, .cells (hadRow out) 143) :: (bs ++ m)) wr := hr
        have h2 := hr2.set j (.bool true)
        rw [hadRow_set _ hj16] at h2
        have h3 : Own W (bs ++ ((d, .cells (hadRow (out ++ [(j : Int)])) 143) :: m)) _ := h2.perm List.perm_middle.symm
        have h4 := h3.alloc (.cells #[.int .i64 (j : Int)] 3)
        have hsrc := src_one (wr.setCell ⟨d, j, none⟩ (.bool true)) (j : Int)
        rw [World.size_setCell] at hsrc
        have hnd : (out ++ [(j : Int)]).Nodup ∧ ∀ x ∈ out ++ [(j : Int)], 0 ≤ x ∧ x < n := by
          refine ⟨List.nodup_append.2 ⟨HND.out.1, by simp, fun a ha b hb he => ?_⟩, fun x hx => ?_⟩
          · simp at hb
            subst hb
            subst he
            exact hin ha
          · rcases List.mem_append.1 hx with hx | hx
            · exact HND.out.2 x hx
            · simp at hx
              subst hx
              exact ⟨hji0, i1⟩
        have HND2 := Lib.hid hnd
        have HSRC := Lib.hid hsrc
        have HX := Lib.hid hx
        have HO2 : Hid (IntsOwn true (.slice A8 z c8) out bs) := by have := HO.out; rw [hz] at this; exact this
        have H4 := Lib.hid h4
        have hlen : out.length + [(j : Int)].length ≤ 60000 := by simp; omega
        have HLEN := Lib.hid hlen
        unfold showV at hsh
        clear hsrc hx hnd h2 hr2 h3 h4 HO hgd hxw hlen hz
        cases hso : showOf x key j with
        | none =>
          rw [hso] at hsh hk
          simp only at hsh hk
          have HS := Lib.hid hsh
          have HK2 := Lib.hid hk
          clear hsh hk hso
          go_wp2_with (first | (at_builtin; refine wpList_app_ints rfl _ _ rfl rfl rfl HO2.out H4.out HSRC.out HLEN.out ?_; intro v' w' bs' k1 k2 k3; have K1 := Lib.hid k1; have cx := HRD.out _ k2.dropL.skip j x HX.out; clear k1 k3) | (go_at_call 114; refine (HS.out _).mono ?_; rintro e w5 ⟨rfl, rfl⟩))
          rw [Exit.noGoto_ret]
          go_ret2
          rw [← HK2.out]
          exact ⟨rfl, k2.dropL.skip⟩
        | some y =>
          rw [hso] at hsh hk
          simp only at hsh hk
          obtain ⟨y0, y1⟩ := showOf_ge hso
          have HS := Lib.hid hsh
          clear hsh hso
          by_cases hny : (n : Int) ≤ y
          · rw [if_pos hny] at hk
            have HK2 := Lib.hid hk
            clear hk
            go_wp2_with (first | (at_builtin; refine wpList_app_ints rfl _ _ rfl rfl rfl HO2.out H4.out HSRC.out HLEN.out ?_; intro v' w' bs' k1 k2 k3; have K1 := Lib.hid k1; have cx := HRD.out _ k2.dropL.skip j x HX.out; clear k1 k3) | (go_at_call 114; refine (HS.out _).mono ?_; rintro e w5 ⟨rfl, rfl⟩))
            rw [Exit.noGoto_ret]
            go_ret2
            rw [← HK2.out]
            exact ⟨rfl, k2.dropL.skip⟩
          · rw [if_neg hny] at hk
            have HK2 : Hid (walk (shW key) g (n + 1 - (out ++ [(j : Int)]).length) (out ++ [(j : Int)]) y = R) := by
              show _ = _
              rw [List.length_append, HZ.out, List.length_singleton, show n + 1 - (z + 1) = n - z by omega]
              exact hk
            clear hk
            have hnyi : y < n := by omega
            go_wp2_with (first | (at_builtin; refine wpList_app_ints rfl _ _ rfl rfl rfl HO2.out H4.out HSRC.out HLEN.out ?_; intro v' w' bs' k1 k2 k3; have K1 := Lib.hid k1; have cx := HRD.out _ k2.dropL.skip j x HX.out; clear k1 k3) | (go_at_call 114; refine (HS.out _).mono ?_; rintro e w5 ⟨rfl, rfl⟩))
            obtain ⟨A9, c9, hv9, -, -⟩ := K1.out.slice
            rw [List.length_append, HZ.out, List.length_singleton] at hv9
            refine ⟨⟨y, _, bs', rfl, y0, hnyi, HND2, HK2, K1, ?_⟩, ?_⟩
            · exact k2.perm List.perm_middle
            · rw [hv9]
              simp [slLen]
              omega
end
end Go.Proofs.Ytigakendeghoaaa.See
