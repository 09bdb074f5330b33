/-
  Texts of this claim, joined. No condition.
-/
import Derived.Test.YtmfemophafncnaaFt6
import Derived.WalkMore
import Derived.Test.YtmfemophafncnaaRows
import Derived.Test.YtmfemophafncnaaFt5
import Derived.Maps.OwnSet
import Derived.Maps.OwnOps
/-
  Contracts: what a link shows (package link). No condition.
-/
namespace Go.Proofs.Ytmfemophafncnaa.See
open Go.RowKit
attribute [local go_sem ↓] Go.wp_at_zero Go.wp_at_succ
def rotl (x s : Nat) : Nat := (x <<< s) % 18446744073709551616 ||| x >>> (64 - s)
theorem shr_lt (x s : Nat) (hx : x < 18446744073709551616) : x >>> s < 18446744073709551616 := by
  rw [Nat.shiftRight_eq_div_pow]
  exact Nat.lt_of_le_of_lt (Nat.div_le_self _ _) hx
theorem rotl_lt (x s : Nat) (hx : x < 18446744073709551616) : rotl x s < 18446744073709551616 := by
  have h : rotl x s < 2 ^ 64 := Nat.or_lt_two_pow (Nat.mod_lt _ (by omega)) (shr_lt x _ hx)
  exact h
theorem rot_bits (x s : Nat) (hx : x < 18446744073709551616) : bits .or .u64 (IntKind.u64.wrap ((x : Int) * 2 ^ s)) ((x : Int) / 2 ^ (64 - s)) = ((rotl x s : Nat) : Int) := by
  unfold rotl
  rw [← u64_or_nat _ _ (Nat.mod_lt _ (by omega)) (shr_lt x _ hx), IntKind.wrap_u64, Nat.shiftLeft_eq, Nat.shiftRight_eq_div_pow]
  congr 1
  all_goals push_cast; rfl
theorem rot_spec (x k : Nat) (hx : x < 18446744073709551616) (hk : k ≤ 75) (w : World) : Calls Try.prog 97 #[.int .u64 x, .int .i64 k] w fun e w' => e = .returned (.int .u64 (rotl x (k % 64) : Nat)) ∧ w = w' := by
  have ha := and63 k (by omega)
  obtain ⟨s, hs⟩ : ∃ s, k % 64 = s := ⟨_, rfl⟩
  have hs64 : s < 64 := by omega
  rw [hs] at ha ⊢
  have hb := Lib.hid (rot_bits x s hx)
  clear hs hx
  go_enter Try.func97, Try.ntmps97
  go_wp2_with fail
  go_ret
  exact ⟨by rw [← hb.out]; rfl, rfl⟩
theorem turned_eq (key n : Nat) : turned key n = (rotl key (5 * n % 64) + n * 2654435769) % 18446744073709551616 := rfl
theorem turned_lt (key n : Nat) : turned key n < 18446744073709551616 := by
  rw [turned_eq]
  exact Nat.mod_lt _ (by omega)
set_option maxRecDepth 100000 in
theorem turned_spec (key n : Nat) (hx : key < 18446744073709551616) (hn : n < 16) (w : World) : Calls Try.prog 83 #[.int .u64 key, .int .i64 n] w fun e w' => e = .returned (.int .u64 (turned key n : Nat)) ∧ w = w' := by
  have hr := fun w => rot_spec key (5 * n) hx (by omega) w
  rw [show ((5 * n : Nat) : Int) = 5 * (n : Int) by omega] at hr
  have HR := Lib.hid hr
  have hv : IntKind.u64.wrap ((rotl key (5 * n % 64) : Int) + (n : Int) * 2654435769) = ((turned key n : Nat) : Int) := by
    rw [turned_eq, IntKind.wrap_u64]
    omega
  have HV := Lib.hid hv
  clear hr hx hv
  go_enter Try.func83, Try.ntmps83
  go_wp2_with (go_at_call 97; refine (HR.out _).mono ?_; rintro e w' ⟨rfl, rfl⟩)
  go_ret
  exact ⟨by rw [← HV.out]; rfl, rfl⟩
def oIs (i : Int) : Bool := decide (0 ≤ i ∧ i < 16)
theorem oIs_yes {i : Int} (h : 0 ≤ i ∧ i < 16) : oIs i = true := decide_eq_true h
theorem oIs_no {i : Int} (h : ¬ (0 ≤ i ∧ i < 16)) : oIs i = false := decide_eq_false h
theorem object_spec (i : Int) (w : World) : Calls Try.prog 82 #[.int .i64 i] w fun e w' => e = .returned (.bool (oIs i)) ∧ w = w' := by
  by_cases h0 : 0 ≤ i
  · by_cases h1 : i < 16
    · rw [oIs_yes ⟨h0, h1⟩]
      go_enter Try.func82, Try.ntmps82
      go_wp2_with fail
      go_ret
      exact ⟨rfl, rfl⟩
    · rw [oIs_no (by omega)]
      go_enter Try.func82, Try.ntmps82
      go_wp2_with fail
      go_ret
      exact ⟨rfl, rfl⟩
  · rw [oIs_no (by omega)]
    go_enter Try.func82, Try.ntmps82
    go_wp2_with fail
    go_ret
    exact ⟨rfl, rfl⟩
/-- what Show answers -/
def showV (x key : Nat) (n : Nat) : Value := match showOf x key n with
  | some i => .tuple #[.int .i64 i, .bool true]
  | none => .tuple #[.int .i64 0, .bool false]
theorem showOf_ge {x key n : Nat} {i : Int} (h : showOf x key n = some i) : -1 ≤ i ∧ i < 16 := by
  unfold showOf at h
  split at h
  · simp at h; omega
  · cases h
set_option maxRecDepth 100000 in
theorem show_ok (x key n : Nat) (hx : x < 18446744073709551616) (hk : key < 18446744073709551616) (hn : n < 16) (w : World) : Calls Try.prog 85 #[.int .u64 x, .int .u64 key, .int .i64 n] w fun e w' => e = .returned (showV x key n) ∧ w = w' := by
  have ht := fun w => turned_spec key n hk hn w
  have hb := u64_xor_nat x (turned key n) hx (turned_lt key n)
  unfold showV showOf
  obtain ⟨T, hT⟩ : ∃ T, turned key n = T := ⟨_, rfl⟩
  obtain ⟨X, hX⟩ : ∃ X, x ^^^ T = X := ⟨_, rfl⟩
  rw [hT] at ht hb ⊢
  rw [hX] at hb ⊢
  have ho := fun w => object_spec (n : Int) w
  rw [oIs_yes (by omega)] at ho
  have HT := Lib.hid ht
  have HO := Lib.hid ho
  clear ht ho hT hX hx hk
  by_cases hc : X ≤ 16
  · have hci : decide ((16 : Int) < X) = false := decide_eq_false (by omega)
    rw [if_pos hc]
    go_enter Try.func85, Try.ntmps85
    go_wp2_with (first | (go_at_call 82; refine (HO.out _).mono ?_; rintro e w' ⟨rfl, rfl⟩) | (go_at_call 83; refine (HT.out _).mono ?_; rintro e w' ⟨rfl, rfl⟩))
    go_ret2
    exact ⟨rfl, rfl⟩
  · have hci : decide ((16 : Int) < X) = true := decide_eq_true (by omega)
    rw [if_neg hc]
    go_enter Try.func85, Try.ntmps85
    go_wp2_with (first | (go_at_call 82; refine (HO.out _).mono ?_; rintro e w' ⟨rfl, rfl⟩) | (go_at_call 83; refine (HT.out _).mono ?_; rintro e w' ⟨rfl, rfl⟩))
    go_ret2
    exact ⟨rfl, rfl⟩
theorem show_bad (x key : Int) (n : Int) (hn : ¬ (0 ≤ n ∧ n < 16)) (w : World) : Calls Try.prog 85 #[.int .u64 x, .int .u64 key, .int .i64 n] w fun e w' => e = .returned (.tuple #[.int .i64 0, .bool false]) ∧ w = w' := by
  have ho := fun w => object_spec n w
  rw [oIs_no hn] at ho
  have HO := Lib.hid ho
  clear ho hn
  go_enter Try.func85, Try.ntmps85
  go_wp2_with (go_at_call 82; refine (HO.out _).mono ?_; rintro e w' ⟨rfl, rfl⟩)
  go_ret2
  exact ⟨rfl, rfl⟩
/-- a link that is made -/
def hideW (i : Int) (key n : Nat) : Nat := (i + 1).toNat ^^^ turned key n
theorem hide_lt {i : Int} {key n : Nat} (hi : i < 16) : hideW i key n < 18446744073709551616 := by
  have h : hideW i key n < 2 ^ 64 := Nat.xor_lt_two_pow (by omega) (turned_lt key n)
  exact h
/-- .. shows what was hidden -/
theorem show_hide {i : Int} {key n : Nat} (h0 : -1 ≤ i) (hi : i < 16) : showOf (hideW i key n) key n = some i := by
  unfold showOf hideW
  rw [Nat.xor_assoc, Nat.xor_self, Nat.xor_zero, if_pos (by omega)]
  congr 1
  omega
end Go.Proofs.Ytmfemophafncnaa.See

/-
  Slices of numbers: append, one number, numbers that the code writes down.
-/
namespace Go.Proofs.Ytmfemophafncnaa
open Go.RowKit

theorem int_info : (Try.prog.info? 3).map (fun i => (i.zero, i.size, i.bytes)) = some (some (.int .i64 0), 1, 8) := by kernel_rfl
/-- numbers as values -/
def ints (l : List Int) : List Value := l.map fun n => .int .i64 n
theorem ints_len (l : List Int) : (ints l).length = l.length := by simp [ints]
theorem ints_get {l : List Int} {i : Nat} {n : Int} (h : l[i]? = some n) : (ints l)[i]? = some (.int .i64 n) := by simp [ints, h]
theorem ints_one (l : List Int) : ∀ u ∈ ints l, u.oneCell' = true := by
  intro u hu
  obtain ⟨n, _, rfl⟩ := List.mem_map.1 hu
  rfl
theorem ints_append (a b : List Int) : ints a ++ ints b = ints (a ++ b) := by simp [ints]
theorem ints_take (l : List Int) (k : Nat) : (ints l).take k = ints (l.take k) := by simp [ints]
theorem ints_drop (l : List Int) (k : Nat) : (ints l).drop k = ints (l.drop k) := by simp [ints]
theorem ints_set (l : List Int) (k : Nat) (n : Int) : (ints l).set k (.int .i64 n) = ints (l.set k n) := by simp [ints]
/-- a slice of numbers that the call owns -/
abbrev IntsOwn (ex : Bool) (v : Value) (l : List Int) (bs : List (Nat × Obj)) : Prop := SlO ex 3 1 v l.length (ints l) bs
/-- a slice that reads as numbers -/
abbrev IntsSrc (w : World) (v : Value) (l : List Int) : Prop := Src w 1 v l.length (ints l)

section
variable {W w : World} {m bs : List (Nat × Obj)} {v x : Value} {l l' : List Int}

/-- append, of numbers: 'at_builtin; refine wpList_app_ints rfl _ _ rfl rfl rfl hs hO hx hlen ?_; intro v' w' bs' h1 h2 h3' -/
theorem wpList_app_ints {ops : Array Oper} {rest : List Oper} {o : Oper} {a : Act} {Q : Exit → Act → World → Prop} (hgd : o.guard = none) (s x : Operand)
    (ho : o.op = .call { callee := .builtin .append, args := #[s, x], argTypes := #[22, 22] }) {v xv : Value} (hes : a.eval s = v) (hex : a.eval x = xv)
    (hs : IntsOwn true v l bs) (hO : Own W (bs ++ m) w) (hx : IntsSrc w xv l') (hlen : l.length + l'.length ≤ 60000)
    (h : ∀ v' w' bs', IntsOwn true v' (l ++ l') bs' → Own W (bs' ++ m) w' → (v' = .slice none 0 0 ↔ v = .slice none 0 0 ∧ l' = []) → wpList Try.prog ops Q rest (a.put o.dst v') w') :
    wpList Try.prog ops Q (o :: rest) a w := by
  obtain ⟨i, hi, hz, hsz, hb⟩ := info_get int_info
  refine wpList_app hgd s x _ ho hes hex 3 i _ 1 8 Try.underlying22 hi hz hsz hb rfl (by omega) hs hO hx (ints_one l') (by unfold maxLen; omega) (by omega) fun v' w' bs' h1 h2 h3 => ?_
  rw [ints_append, ← List.length_append] at h1
  exact h v' w' bs' h1 h2 (by rw [h3, List.length_eq_zero_iff])

/-- one number, in a block of its own -/
theorem src_one (w : World) (p : Int) : IntsSrc (w.alloc (.cells #[.int .i64 p] 3)) (.slice (some ⟨w.heap.size, 0, none⟩) 1 1) [p] := by
  refine ⟨rfl, .inr ⟨_, _, rfl, fun j u hj => ?_⟩⟩
  rw [add_lit0]
  match j, hj with
  | 0, hj => simp [ints] at hj; subst hj; simp
  | j + 1, hj => simp [ints] at hj

end
/-- structs that the code writes down, in a block of their own -/
theorem src_lit (w : World) (e : TypeId) (size n : Nat) (l : List Int) (hl : l.length = n * size) :
    Src (w.alloc (.cells (ints l).toArray e)) size (.slice (some ⟨w.heap.size, 0, none⟩) n n) n (ints l) := by
  refine ⟨by simpa [ints] using hl, .inr ⟨_, _, rfl, fun j u hj => ?_⟩⟩
  rw [add_lit0]
  simp [hj]

end Go.Proofs.Ytmfemophafncnaa

/-
  Contract: the objects of a list (link.List). No condition.
-/
namespace Go.Proofs.Ytmfemophafncnaa.See
open Go.RowKit
attribute [local go_sem ↓] Go.wp_at_zero Go.wp_at_succ
/-- words that are read, whatever else there is -/
def Rd (W : World) (m : List (Nat × Obj)) (B o : Nat) (g : List Nat) : Prop := ∀ ws, Own W m ws → ∀ (j : Nat) (x : Nat), g[j]? = some x → ws.cell? ⟨B, o + j, none⟩ = some (.int .u64 (x : Int))
theorem Rd.more {W : World} {m m' : List (Nat × Obj)} {B o : Nat} {g : List Nat} (h : Rd W m B o g) : Rd W (m' ++ m) B o g := fun ws hw j x hj => h ws hw.dropL j x hj
/-- which objects are out -/
def hadRow (out : List Int) : Array Value := ((List.range 16).map fun (i : Nat) => Value.bool (decide ((i : Int) ∈ out))).toArray
theorem hadRow_get (out : List Int) {i : Nat} (h : i < 16) : (hadRow out)[i]? = some (.bool (decide ((i : Int) ∈ out))) := by simp [hadRow, h]
theorem hadRow_set (out : List Int) {i : Nat} (h : i < 16) : (hadRow out).setIfInBounds i (.bool true) = hadRow (out ++ [(i : Int)]) := by
  apply Array.ext_getElem?
  intro j
  rw [Array.getElem?_setIfInBounds]
  by_cases hj : j < 16
  · rw [hadRow_get _ hj]
    by_cases hx : i = j
    · subst hx; simp [hadRow, h]
    · rw [if_neg hx, hadRow_get _ hj]
      have : ¬ (j : Int) = (i : Int) := fun e => hx (by omega)
      simp [this]
  · rw [if_neg (by omega), Array.getElem?_eq_none (by simp [hadRow]; omega), Array.getElem?_eq_none (by simp [hadRow]; omega)]
def slLen : Value → Nat
  | .slice _ n _ => n
  | _ => 0
def shW (key : Nat) (w : Nat) (o : Int) : Option Int := showOf w key o.toNat
section
variable {W w : World} {m : List (Nat × Obj)} {B o c : Nat} {g : List Nat}
/-- what List answers -/
def ListPost (W : World) (m : List (Nat × Obj)) (r : Option (List Int)) (e : Ending) (w' : World) : Prop := match r with
  | some l => ∃ v bs, e = .returned (.tuple #[v, .int .i64 0]) ∧ Hid (IntsOwn true v l bs) ∧ Own W (bs ++ m) w'
  | none => e = .returned (.tuple #[.slice none 0 0, .int .i64 150]) ∧ Own W m w'
set_option maxRecDepth 100000 in
set_option maxHeartbeats 2000000 in
theorem list_spec (h : Own W m w) (hr : Rd W m B o g) {n : Nat} (hn : g.length = n) (hg : n ≤ 16) (hw : W64 g) (hnc : n ≤ c) (hcm : c ≤ maxLen) (key : Nat) (hk : key < 18446744073709551616) (first : Int) (h0 : -1 ≤ first) (h1 : first < n) :
    Calls Try.prog 68 #[.slice (some ⟨B, o, none⟩) n c, .int .u64 key, .int .i64 first] w (ListPost W m (walk (shW key) g (n + 1) [] first)) := by
  obtain ⟨R, hR⟩ : ∃ R, walk (shW key) g (n + 1) [] first = R := ⟨_, rfl⟩
  have HR := Lib.hid hR
  have HRD := Lib.hid hr
  have HN := Lib.hid hn
  have HW := Lib.hid hw
  have HK := Lib.hid hk
  have HC := Lib.hid hcm
  rw [hR]
  have hgi : (n : Int) ≤ 16 := by omega
  have hb1 : decide ((16 : Int) < (n : Int)) = false := decide_eq_false (by omega)
  have hb2 : decide (first < -1) = false := decide_eq_false (by omega)
  have hb3 : decide ((n : Int) ≤ first) = false := decide_eq_false (by omega)
  clear hr hn hw hk hcm hR
  go_enter Try.func68, Try.ntmps68
  go_wp2_with fail
  go_step3
  go_wp2_with fail
  go_step3
  go_wp2_with fail
  have h1 : Own W ([(w.heap.size, .cells (hadRow []) 111)] ++ m) (w.alloc (.cells #[.bool false, .bool false, .bool false, .bool false, .bool false, .bool false, .bool false, .bool false, .bool false, .bool false, .bool false, .bool false, .bool false, .bool false, .bool false, .bool false] 111)) := h.new (.cells (hadRow []) 111)
  obtain ⟨d, hd⟩ : ∃ d, w.heap.size = d := ⟨_, rfl⟩
  obtain ⟨wa, hwa⟩ : ∃ wa, w.alloc (.cells #[.bool false, .bool false, .bool false, .bool false, .bool false, .bool false, .bool false, .bool false, .bool false, .bool false, .bool false, .bool false, .bool false, .bool false, .bool false, .bool false] 111) = wa := ⟨_, rfl⟩
  rw [hwa, hd] at h1
  rw [hwa, hd]
  have H1 := Lib.hid h1
  clear h1 hd hwa hb1 hb2 hb3
  go_loopw [2, 9] (fun iv ov wr => ∃ (i : Int) (out : List Int) (bs : List (Nat × Obj)), iv = .int .i64 i ∧ -1 ≤ i ∧ i < n ∧ Hid (out.Nodup ∧ ∀ x ∈ out, 0 ≤ x ∧ x < n) ∧ Hid (walk (shW key) g (n + 1 - out.length) out i = R) ∧ Hid (IntsOwn true ov out bs) ∧ Own W ([(d, .cells (hadRow out) 111)] ++ (bs ++ m)) wr) (fun _ ov _ => 17 - slLen ov)
  case atStart => exact ⟨first, [], [], rfl, h0, h1, ⟨List.nodup_nil, fun x hx => (by simp at hx)⟩, HR, SlO.nil _ _ _, H1.out⟩
  case round =>
    clear H1 HR h0 h1 h
    obtain ⟨i, out, bs, rfl, i0, i1, HND, HWK, HO, hr⟩ := hrel
    obtain ⟨A8, c8, hv, -, -⟩ := HO.out.slice
    subst hv
    have hfew := few HND.out.1 HND.out.2
    obtain ⟨z, hz⟩ : ∃ z, out.length = z := ⟨_, rfl⟩
    have HZ := Lib.hid hz
    rw [hz] at hfew ⊢
    by_cases him : i = -1
    · subst him
      have hk := HWK.out
      rw [hz, show n + 1 - z = (n - z) + 1 by omega] at hk
      simp only [walk, if_true] at hk
      have HK2 := Lib.hid hk
      clear hz hk
      go_wp2_with fail
      rw [Exit.noGoto_ret]
      go_ret2
      rw [← HK2.out]
      exact ⟨_, bs, rfl, by have := HO.out; rw [HZ.out] at this; exact this, hr.dropL⟩
    · have hib : (i == -1) = false := beq_eq_false_iff_ne.2 him
      obtain ⟨j, rfl⟩ : ∃ j : Nat, i = j := ⟨i.toNat, by omega⟩
      have hj16 : j < 16 := by omega
      have cj := hr.cell List.mem_cons_self j
      have fj := hr.frozen List.mem_cons_self j
      rw [hadRow_get _ hj16] at cj
      have hji0 : (0 : Int) ≤ (j : Int) := by omega
      have hji1 : (j : Int) < 16 := by omega
      by_cases hin : (j : Int) ∈ out
      · rw [decide_eq_true hin] at cj
        have hk := HWK.out
        rw [hz, show n + 1 - z = (n - z) + 1 by omega] at hk
        simp only [walk, him, hin, if_false, if_true] at hk
        have HK2 := Lib.hid hk
        clear hz hk
        go_wp2_with fail
        rw [Exit.noGoto_ret]
        go_ret2
        rw [← HK2.out]
        exact ⟨rfl, hr.dropL.dropL⟩
      · rw [decide_eq_false hin] at cj
        obtain ⟨x, hx⟩ : ∃ x, g[j]? = some x := ⟨_, List.getElem?_eq_getElem (by have := HN.out; omega)⟩
        have hxw := HW.out x (List.mem_of_getElem? hx)
        have hgd : g.getD j 0 = x := by rw [List.getD_eq_getElem?_getD, hx]; rfl
        have hlt := few_lt HND.out.1 HND.out.2 hji0 i1 hin
        rw [hz] at hlt
        have hsh := fun w => show_ok x key j hxw HK.out hj16 w
        have hk := HWK.out
        rw [hz, show n + 1 - z = (n - z) + 1 by omega] at hk
        simp only [walk, him, hin, if_false, Int.toNat_natCast, hgd, shW, HN.out] at hk
        have hr2 : Own W ((d, .cells (hadRow out) 111) :: (bs ++ m)) wr := hr
        have h2 := hr2.set j (.bool true)
        rw [hadRow_set _ hj16] at h2
        have h3 : Own W (bs ++ ((d, .cells (hadRow (out ++ [(j : Int)])) 111) :: m)) _ := h2.perm List.perm_middle.symm
        have h4 := h3.alloc (.cells #[.int .i64 (j : Int)] 3)
        have hsrc := src_one (wr.setCell ⟨d, j, none⟩ (.bool true)) (j : Int)
        rw [World.size_setCell] at hsrc
        have hnd : (out ++ [(j : Int)]).Nodup ∧ ∀ x ∈ out ++ [(j : Int)], 0 ≤ x ∧ x < n := by
          refine ⟨List.nodup_append.2 ⟨HND.out.1, by simp, fun a ha b hb he => ?_⟩, fun x hx => ?_⟩
          · simp at hb
            subst hb
            subst he
            exact hin ha
          · rcases List.mem_append.1 hx with hx | hx
            · exact HND.out.2 x hx
            · simp at hx
              subst hx
              exact ⟨hji0, i1⟩
        have HND2 := Lib.hid hnd
        have HSRC := Lib.hid hsrc
        have HX := Lib.hid hx
        have HO2 : Hid (IntsOwn true (.slice A8 z c8) out bs) := by have := HO.out; rw [hz] at this; exact this
        have H4 := Lib.hid h4
        have hlen : out.length + [(j : Int)].length ≤ 60000 := by simp; omega
        have HLEN := Lib.hid hlen
        unfold showV at hsh
        clear hsrc hx hnd h2 hr2 h3 h4 HO hgd hxw hlen hz
        cases hso : showOf x key j with
        | none =>
          rw [hso] at hsh hk
          simp only at hsh hk
          have HS := Lib.hid hsh
          have HK2 := Lib.hid hk
          clear hsh hk hso
          go_wp2_with (first | (at_builtin; refine wpList_app_ints rfl _ _ rfl rfl rfl HO2.out H4.out HSRC.out HLEN.out ?_; intro v' w' bs' k1 k2 k3; have K1 := Lib.hid k1; have cx := HRD.out _ k2.dropL.skip j x HX.out; clear k1 k3) | (go_at_call 85; refine (HS.out _).mono ?_; rintro e w5 ⟨rfl, rfl⟩))
          rw [Exit.noGoto_ret]
          go_ret2
          rw [← HK2.out]
          exact ⟨rfl, k2.dropL.skip⟩
        | some y =>
          rw [hso] at hsh hk
          simp only at hsh hk
          obtain ⟨y0, y1⟩ := showOf_ge hso
          have HS := Lib.hid hsh
          clear hsh hso
          by_cases hny : (n : Int) ≤ y
          · rw [if_pos hny] at hk
            have HK2 := Lib.hid hk
            clear hk
            go_wp2_with (first | (at_builtin; refine wpList_app_ints rfl _ _ rfl rfl rfl HO2.out H4.out HSRC.out HLEN.out ?_; intro v' w' bs' k1 k2 k3; have K1 := Lib.hid k1; have cx := HRD.out _ k2.dropL.skip j x HX.out; clear k1 k3) | (go_at_call 85; refine (HS.out _).mono ?_; rintro e w5 ⟨rfl, rfl⟩))
            rw [Exit.noGoto_ret]
            go_ret2
            rw [← HK2.out]
            exact ⟨rfl, k2.dropL.skip⟩
          · rw [if_neg hny] at hk
            have HK2 : Hid (walk (shW key) g (n + 1 - (out ++ [(j : Int)]).length) (out ++ [(j : Int)]) y = R) := by
              show _ = _
              rw [List.length_append, HZ.out, List.length_singleton, show n + 1 - (z + 1) = n - z by omega]
              exact hk
            clear hk
            have hnyi : y < n := by omega
            go_wp2_with (first | (at_builtin; refine wpList_app_ints rfl _ _ rfl rfl rfl HO2.out H4.out HSRC.out HLEN.out ?_; intro v' w' bs' k1 k2 k3; have K1 := Lib.hid k1; have cx := HRD.out _ k2.dropL.skip j x HX.out; clear k1 k3) | (go_at_call 85; refine (HS.out _).mono ?_; rintro e w5 ⟨rfl, rfl⟩))
            obtain ⟨A9, c9, hv9, -, -⟩ := K1.out.slice
            rw [List.length_append, HZ.out, List.length_singleton] at hv9
            refine ⟨⟨y, _, bs', rfl, y0, hnyi, HND2, HK2, K1, ?_⟩, ?_⟩
            · exact k2.perm List.perm_middle
            · rw [hv9]
              simp [slLen]
              omega
end
end Go.Proofs.Ytmfemophafncnaa.See

/-
  Where a core's words lie: no two at one place, all within the words. Plain.
-/
namespace Go.Proofs.Ytmfemophafncnaa.Apart
/-- a processor's places -/
def cpuPl (i : Nat) : List Nat := [4 * i, 4 * i + 1, 4 * i + 2, 4 * i + 3]
/-- a slab's places -/
def slabPl (C S O s : Nat) : List Nat := [4 * C + 4 + 4 * s, 4 * C + 4 + 4 * s + 1, 4 * C + 4 + 4 * s + 2] ++ (List.range O).map fun i => 4 * C + 4 + 4 * S + s * O + i
def pl (C S O : Nat) : List Nat := [4 * C, 4 * C + 1, 4 * C + 2] ++ ((List.range C).flatMap cpuPl ++ (List.range S).flatMap (slabPl C S O))
theorem mem_cpu {C x : Nat} (h : x ∈ (List.range C).flatMap cpuPl) : x < 4 * C := by
  rw [List.mem_flatMap] at h
  obtain ⟨i, hi, hx⟩ := h
  rw [List.mem_range] at hi
  simp [cpuPl] at hx
  omega
theorem mem_slab {C S O s x : Nat} (hs : s < S) (h : x ∈ slabPl C S O s) : (4 * C + 4 + 4 * s ≤ x ∧ x < 4 * C + 4 + 4 * s + 3) ∨ (4 * C + 4 + 4 * S + s * O ≤ x ∧ x < 4 * C + 4 + 4 * S + (s + 1) * O) := by
  simp only [slabPl, List.mem_append, List.mem_cons, List.not_mem_nil, or_false, List.mem_map, List.mem_range] at h
  rw [Nat.add_mul, Nat.one_mul]
  rcases h with h | ⟨i, hi, rfl⟩
  · left; omega
  · right; omega
theorem mem_pl {C S O x : Nat} (h : x ∈ pl C S O) : x < 4 * C + 4 + 4 * S + S * O := by
  simp only [pl, List.mem_append, List.mem_cons, List.not_mem_nil, or_false] at h
  rcases h with h | h | h
  · omega
  · have := mem_cpu h; omega
  · rw [List.mem_flatMap] at h
    obtain ⟨s, hs, hx⟩ := h
    rw [List.mem_range] at hs
    have hm : (s + 1) * O ≤ S * O := Nat.mul_le_mul_right O hs
    rcases mem_slab hs hx with h | h <;> omega
theorem range_pairs (n : Nat) : (List.range n).Pairwise (fun a b => a < b) := List.pairwise_lt_range
theorem nodup_cpu (C : Nat) : ((List.range C).flatMap cpuPl).Pairwise (· ≠ ·) := by
  rw [List.pairwise_flatMap]
  refine ⟨fun i _ => by simp [cpuPl], (range_pairs C).imp ?_⟩
  intro a b hab x hx y hy
  simp [cpuPl] at hx hy
  omega
theorem nodup_slab (C S O : Nat) : ((List.range S).flatMap (slabPl C S O)).Pairwise (· ≠ ·) := by
  rw [List.pairwise_flatMap]
  refine ⟨fun s hs => ?_, ?_⟩
  · rw [List.mem_range] at hs
    unfold slabPl
    rw [List.pairwise_append]
    refine ⟨by simp, ?_, ?_⟩
    · rw [List.pairwise_map]
      exact (range_pairs O).imp fun h => by omega
    · intro x hx y hy
      simp only [List.mem_cons, List.not_mem_nil, or_false] at hx
      rw [List.mem_map] at hy
      obtain ⟨i, _, rfl⟩ := hy
      omega
  · rw [List.pairwise_iff_forall_sublist]
    intro a b hab x hx y hy
    have hlt : a < b := by
      have := (range_pairs S).sublist hab
      simpa using this
    have hb : b < S := by
      have := hab.subset (List.mem_cons_of_mem _ List.mem_cons_self)
      simpa using this
    have hm : (a + 1) * O ≤ b * O := Nat.mul_le_mul_right O hlt
    rcases mem_slab (by omega) hx with h1 | h1 <;> rcases mem_slab hb hy with h2 | h2 <;> omega
theorem nodup_pl (C S O : Nat) : (pl C S O).Pairwise (· ≠ ·) := by
  unfold pl
  rw [List.pairwise_append, List.pairwise_append]
  refine ⟨by simp, ⟨nodup_cpu C, nodup_slab C S O, ?_⟩, ?_⟩
  · intro x hx y hy
    have := mem_cpu hx
    rw [List.mem_flatMap] at hy
    obtain ⟨s, hs, hy⟩ := hy
    rw [List.mem_range] at hs
    rcases mem_slab hs hy with h | h <;> omega
  · intro x hx y hy
    simp only [List.mem_cons, List.not_mem_nil, or_false] at hx
    rw [List.mem_append] at hy
    rcases hy with hy | hy
    · have := mem_cpu hy; omega
    · rw [List.mem_flatMap] at hy
      obtain ⟨s, hs, hy⟩ := hy
      rw [List.mem_range] at hs
      rcases mem_slab hs hy with h | h <;> omega
end Go.Proofs.Ytmfemophafncnaa.Apart

/-
  What words say hangs on the named ones alone. Plain. No condition.
-/
namespace Go.Proofs.Ytmfemophafncnaa.See
open Apart (pl cpuPl slabPl)
variable {c : Ch} {g g' : List Nat}
theorem links_get (hO : g.length = c.words) {s : Nat} (hs : s < c.S) {i : Nat} (hi : i < c.O) : (links c g s)[i]? = some (at_ g (4 * c.C + 4 + 4 * c.S + s * c.O + i)) := by
  have hm : s * c.O + c.O ≤ c.S * c.O := by
    have := Nat.mul_le_mul_right c.O (show s + 1 ≤ c.S by omega)
    rw [Nat.succ_mul] at this
    exact this
  unfold Ch.words at hO
  unfold links at_
  rw [List.getElem?_take, if_pos hi, List.getElem?_drop, List.getElem?_eq_getElem (by omega), List.getD_eq_getElem?_getD, List.getElem?_eq_getElem (by omega)]
  rfl
theorem links_len (hO : g.length = c.words) {s : Nat} (hs : s < c.S) : (links c g s).length = c.O := by
  have hm : s * c.O + c.O ≤ c.S * c.O := by
    have := Nat.mul_le_mul_right c.O (show s + 1 ≤ c.S by omega)
    rw [Nat.succ_mul] at this
    exact this
  unfold Ch.words at hO
  unfold links
  rw [List.length_take, List.length_drop]
  omega
theorem chain_congr {of : Nat → Option Int} {nx nx' : Int → Nat} {S : Nat} (h0 : ∀ w s, of w = some s → -1 ≤ s) (h : ∀ s : Int, 0 ≤ s → s < S → nx s = nx' s) : ∀ (n : Nat) (out : List Int) (w : Nat), chain of nx S n out w = chain of nx' S n out w
  | 0, _, _ => rfl
  | n + 1, out, w => by
    unfold chain
    cases hw : of w with
    | none => rfl
    | some s =>
      have := h0 w s hw
      simp only
      by_cases h1 : (S : Int) ≤ s ∨ s ∈ out
      · rw [if_pos h1, if_pos h1]
      · rw [if_neg h1, if_neg h1]
        by_cases h2 : s = -1
        · rw [if_pos h2, if_pos h2]
        · rw [if_neg h2, if_neg h2, h s (by omega) (by omega)]
          exact chain_congr h0 h n _ _
theorem partOf_ge {w : Nat} {s : Int} (h : (partOf w).map (·.1) = some s) : -1 ≤ s := by
  unfold partOf at h
  split at h
  · simp at h; omega
  · split at h
    · simp at h; omega
    · cases h
theorem shelfOf_ge {w : Nat} {s : Int} (h : shelfOf w = some s) : -1 ≤ s := by
  unfold shelfOf at h
  split at h
  · simp at h; omega
  · cases h
theorem headOf_ge {w : Nat} {s o : Int} (h : headOf w = some (s, o)) : (s = -1 ∧ o = -1) ∨ (0 ≤ s ∧ s < 32 ∧ -1 ≤ o ∧ o < 16) := by
  unfold headOf at h
  split at h
  · simp at h; omega
  · split at h
    · simp at h; omega
    · cases h
theorem upto_congr {α : Type} {f f' : Nat → Option α} : ∀ {n : Nat}, (∀ i, i < n → f i = f' i) → upto f n = upto f' n
  | 0, _ => rfl
  | n + 1, h => by
    unfold upto
    rw [upto_congr (n := n) fun i hi => h i (by omega), h n (by omega)]
theorem see_congr (hg : g.length = c.words) (hg' : g'.length = c.words) (h : ∀ x ∈ pl c.C c.S c.O, at_ g x = at_ g' x) : seeP c g = seeP c g' := by
  have hcpu : ∀ i, i < c.C → ∀ x ∈ cpuPl i, at_ g x = at_ g' x := fun i hi x hx => h x (by
    unfold pl
    exact List.mem_append_right _ (List.mem_append_left _ (List.mem_flatMap.2 ⟨i, List.mem_range.2 hi, hx⟩)))
  have hslab : ∀ s, s < c.S → ∀ x ∈ slabPl c.C c.S c.O s, at_ g x = at_ g' x := fun s hs x hx => h x (by
    unfold pl
    exact List.mem_append_right _ (List.mem_append_right _ (List.mem_flatMap.2 ⟨s, List.mem_range.2 hs, hx⟩)))
  have hnext : ∀ s : Int, 0 ≤ s → s < c.S → nextAt c g s = nextAt c g' s := fun s h0 h1 => hslab s.toNat (by omega) _ (by simp [slabPl])
  have hlinks : ∀ s, s < c.S → links c g s = links c g' s := fun s hs => by
    apply List.ext_getElem?
    intro i
    by_cases hi : i < c.O
    · rw [links_get hg hs hi, links_get hg' hs hi, hslab s hs _ (by
        unfold slabPl
        exact List.mem_append_right _ (List.mem_map.2 ⟨i, List.mem_range.2 hi, rfl⟩))]
    · rw [List.getElem?_eq_none (by rw [links_len hg hs]; omega), List.getElem?_eq_none (by rw [links_len hg' hs]; omega)]
  have hlist : ∀ s i : Int, listP c g s i = listP c g' s i := fun s i => by
    unfold listP
    by_cases hc : 0 ≤ s ∧ s < c.S ∧ -1 ≤ i ∧ i < c.O
    · rw [if_pos hc, if_pos hc, hlinks s.toNat (by omega)]
    · rw [if_neg hc, if_neg hc]
  have hparts : ∀ w : Nat, partsP c g w = partsP c g' w := fun w => chain_congr (fun w s hw => partOf_ge hw) hnext _ _ _
  have e1 : upto (slotP c g) c.C = upto (slotP c g') c.C := upto_congr fun i hi => by
    unfold slotP
    have k := hcpu i hi
    rw [k (4 * i) (by simp [cpuPl]), k (4 * i + 1) (by simp [cpuPl]), k (4 * i + 2) (by simp [cpuPl])]
    simp only [hlist, hparts]
  have e2 : shelfP c g = shelfP c g' := by
    unfold shelfP
    rw [h (4 * c.C + 1) (by simp [pl])]
    exact chain_congr (fun w s hw => shelfOf_ge hw) hnext _ _ _
  have e3 : upto (slabP c g) c.S = upto (slabP c g') c.S := upto_congr fun s hs => by
    unfold slabP
    have k := hslab s hs
    rw [k (4 * c.C + 4 + 4 * s) (by simp [slabPl]), k (4 * c.C + 4 + 4 * s + 1) (by simp [slabPl])]
    simp only [hlist]
  unfold seeP
  rw [e1, e2, e3, h (4 * c.C) (by simp [pl])]
end Go.Proofs.Ytmfemophafncnaa.See

/-
  The places of a chart, each by a tree of questions. No condition.
-/
namespace Go.Proofs.Ytmfemophafncnaa.chartPlaces
open Go Ex
def v (i : Nat) : SE := .var i
def l (n : Int) : SE := .lit n
def add (a b : SE) : SE := .bin .add a b
def mul (a b : SE) : SE := .bin .mul a b
def chart : AV := .agg [.sym .i64 (v 0), .sym .i64 (v 1), .sym .i64 (v 2), .sym .i64 (v 3), .sym .i64 (v 4), .sym .u64 (v 5)]
def is (e : SE) : DT := .is (.sym .i64 e)
def num (n : Int) : DT := .is (.int .i64 n)
def no : DT := num (-1)
/-- the value that a tree leads to -/
def endOf (σ : Nat → Int) : DT → Value
  | .leaf => .bool true
  | .is a => Ex.valOf σ a
  | .bad => undef
  | .node c t e => if c.ev σ = true then endOf σ t else endOf σ e
theorem ends_of {σ : Nat → Int} : ∀ {d : DT} {x : Value}, Ex.Ends σ d x → x = endOf σ d
  | .leaf, _, h => h
  | .is _, _, h => h
  | .bad, _, h => h.elim
  | .node c t e, x, h => by
    unfold endOf
    rcases h with ⟨h1, h2⟩ | ⟨h1, h2⟩
    · rw [if_pos h1]; exact ends_of h2
    · rw [if_neg (by rw [h1]; simp)]; exact ends_of h2
def iv : Value → Int
  | .int _ n => n
  | _ => 0
def ofKind (k : IntKind) : DT → Bool
  | .is (.int k' _) => decide (k = k')
  | .is (.sym k' _) => decide (k = k')
  | .node _ t e => ofKind k t && ofKind k e
  | .bad => true
  | _ => false
theorem kind_of {σ : Nat → Int} {k : IntKind} : ∀ {d : DT}, ofKind k d = true → ¬ BadP σ d → endOf σ d = .int k (iv (endOf σ d))
  | .is a, h, _ => by
    cases a <;> simp [ofKind] at h <;> subst h <;> simp [endOf, Ex.valOf, iv]
  | .bad, _, h => absurd trivial h
  | .leaf, h, _ => by cases h
  | .node c t e, h, hb => by
    unfold ofKind at h
    rw [Bool.and_eq_true] at h
    unfold endOf
    by_cases hc : c.ev σ = true
    · rw [if_pos hc]; exact kind_of h.1 fun hx => hb (.inl ⟨hc, hx⟩)
    · rw [if_neg hc]; exact kind_of h.2 fun hx => hb (.inr ⟨by simpa using hc, hx⟩)
/-! the trees -/
def chain : List (SE × SE) → DT → DT → DT
  | [], _, y => y
  | (a, b) :: r, n, y => .node (.lt a b) n (chain r n y)
def tChk : DT := chain [(v 0, l 1), (l 8, v 0), (v 1, l 1), (l 32, v 1), (v 2, l 1), (l 16, v 2), (v 3, l 0), (l 32, v 3), (v 4, l 0), (l 32, v 4)] (num 2) (num 0)
def okQ : Cnd := .eq (v 8) (l 0)
def base : SE := mul (l 4) (v 0)
def slabs : SE := add base (l 4)
def links : SE := add slabs (mul (l 4) (v 1))
def t0 (e : SE) : DT := .node okQ (is e) no
def t1 (n : Nat) (e : SE) : DT := .node okQ (.node (.lt (v 6) (l 0)) no (.node (.lt (v 6) (v n)) (is e) no)) (.node (.lt (v 6) (l 0)) no (.node (.lt (v 6) (v n)) no no))
def tWords : DT := .node okQ (chain [(v 0, l 1), (l 8, v 0), (v 1, l 1), (l 32, v 1), (v 2, l 1), (l 16, v 2)] .bad (is (add links (mul (v 1) (v 2))))) (num 0)
def tHead : DT := t1 0 (mul (l 4) (v 6))
def tPart : DT := t1 0 (add (mul (l 4) (v 6)) (l 2))
def tLock : DT := t0 base
def tShelf : DT := t0 (add base (l 1))
def tHeld : DT := t0 (add base (l 2))
def tFirst : DT := t1 1 (add slabs (mul (l 4) (v 6)))
def tNext : DT := t1 1 (add (add slabs (mul (l 4) (v 6))) (l 2))
def tLink : DT :=
  .node okQ (.node (.lt (v 6) (l 0)) no (.node (.lt (v 6) (v 1)) (.node (.lt (v 7) (l 0)) no (.node (.lt (v 7) (v 2)) (is (add (add links (mul (v 6) (v 2))) (v 7))) no)) no))
    (.node (.lt (v 6) (l 0)) no (.node (.lt (v 6) (v 1)) (.node (.lt (v 7) (l 0)) no (.node (.lt (v 7) (v 2)) no no)) no))
def tKey : DT := .is (.sym .u64 (.ubin .add (v 5) (.ubin .mul (.cv .u64 (v 6)) (l 11400714819323198485))))
/-! what the numbers are -/
def args0 (a b c d e key i k : Int) : List Int := [a, b, c, d, e, key, i, k]
section
variable (a b c d e key i k : Int)
def s0 : Nat → Int := fun n => [a, b, c, d, e, key, i, k].getD n 0
def chk : Int := iv (endOf (s0 a b c d e key i k) tChk)
def s1 : Nat → Int := fun n => [a, b, c, d, e, key, i, k, chk a b c d e key i k].getD n 0
def val (t : DT) : Int := iv (endOf (s1 a b c d e key i k) t)
def s2 : Nat → Int := fun n => [a, b, c, d, e, key, i, k, chk a b c d e key i k, val a b c d e key i k tWords, val a b c d e key i k tHead, val a b c d e key i k tPart, val a b c d e key i k tLock, val a b c d e key i k tShelf, val a b c d e key i k tHeld, val a b c d e key i k tFirst, val a b c d e key i k tNext, val a b c d e key i k tLink, val a b c d e key i k tKey].getD n 0

/-- a number of 64 bits -/
def I64 (n : Int) : Prop := -9223372036854775808 ≤ n ∧ n ≤ 9223372036854775807
def Ok (a b c d e : Int) : Prop := 1 ≤ a ∧ a ≤ 8 ∧ 1 ≤ b ∧ b ≤ 32 ∧ 1 ≤ c ∧ c ≤ 16 ∧ 0 ≤ d ∧ d ≤ 32 ∧ 0 ≤ e ∧ e ≤ 32
instance : Decidable (Ok a b c d e) := by unfold Ok; infer_instance
theorem chk_is : endOf (s0 a b c d e key i k) tChk = .int .i64 (if Ok a b c d e then 0 else 2) := by
  simp only [tChk, chain, endOf, num, Cnd.ev, SE.ev, v, l, s0, Ex.valOf, List.getD_cons_zero, List.getD_cons_succ, decide_eq_true_eq, Ok]
  by_cases h1 : a < 1 <;> by_cases h2 : 8 < a <;> by_cases h3 : b < 1 <;> by_cases h4 : 32 < b <;> by_cases h5 : c < 1 <;> by_cases h6 : 16 < c <;> by_cases h7 : d < 0 <;> by_cases h8 : 32 < d <;> by_cases h9 : e < 0 <;> by_cases h10 : 32 < e <;> simp [*] <;> omega
theorem bad_words : ¬ BadP (s1 a b c d e key i k) tWords := by
  have hchk : chk a b c d e key i k = if Ok a b c d e then 0 else 2 := by unfold chk; rw [chk_is]; rfl
  have e8 : s1 a b c d e key i k 8 = chk a b c d e key i k := rfl
  have e0 : s1 a b c d e key i k 0 = a := rfl
  have e1 : s1 a b c d e key i k 1 = b := rfl
  have e2 : s1 a b c d e key i k 2 = c := rfl
  intro h
  simp only [tWords, chain, BadP, Cnd.ev, okQ, v, l, SE.ev, is, num, e8, e0, e1, e2, hchk, decide_eq_true_eq, decide_eq_false_iff_not, beq_iff_eq, beq_eq_false_iff_ne, and_false, or_false, and_true] at h
  by_cases hok : Ok a b c d e
  · unfold Ok at hok
    omega
  · simp [hok] at h
end
/-- a call that is known, by a tree -/
theorem known {σ σ' : Nat → Int} {ov : Ov} (hov : OvOk Try.prog [] σ ov) {f : FuncId} {xs : List AV} {t : DT} {k : IntKind} {e : SE} (ha : AV.shuts xs = true) (h : tree Try.prog [] ov 30 f xs t [] = true) (hb : ¬ BadP σ t) (hk : ofKind k t = true)
    (he : valsOf σ' xs = valsOf σ xs) (hv : e.ev σ' = iv (endOf σ t)) (w : World) (hg : Tabs [] w) : Calls Try.prog f (valsOf σ' xs).toArray w fun r w' => r = .returned (Ex.valOf σ' (.sym k e)) ∧ RowKit.Below w.heap.size w w' := by
  rw [he]
  refine (tree_ends mixed hov ha t [] (by simp) h hb w hg).mono ?_
  rintro _ _ ⟨⟨x, rfl, hx⟩, h2⟩
  refine ⟨?_, h2⟩
  rw [ends_of hx, kind_of hk hb]
  unfold Ex.valOf
  rw [hv]
def hasBad : DT → Bool
  | .bad => true
  | .node _ t e => hasBad t || hasBad e
  | _ => false
theorem no_bad {σ : Nat → Int} {t : DT} (h : hasBad t = false) : ¬ BadP σ t := by
  induction t with
  | leaf => exact fun h => h
  | is _ => exact fun h => h
  | bad => cases h
  | node c t e i1 i2 =>
    unfold hasBad at h
    rw [Bool.or_eq_false_iff] at h
    rintro (⟨_, h1⟩ | ⟨_, h1⟩)
    · exact i1 h.1 h1
    · exact i2 h.2 h1
def i6 : AV := .sym .i64 (v 6)
def k7 : AV := .sym .i64 (v 7)

theorem r_cCheck : tree Try.prog [] [] 30 25 [chart] tChk [] = true := by kernel_rfl
def ov1 : Ov := [(25, [chart], .sym .i64 (v 8))]
theorem r_cWords : tree Try.prog [] ov1 30 14 [chart] tWords [] = true := by kernel_rfl
theorem r_cHead : tree Try.prog [] ov1 30 21 [chart, i6] tHead [] = true := by kernel_rfl
theorem r_cPart : tree Try.prog [] ov1 30 22 [chart, i6] tPart [] = true := by kernel_rfl
theorem r_cLock : tree Try.prog [] ov1 30 26 [chart] tLock [] = true := by kernel_rfl
theorem r_cShelf : tree Try.prog [] ov1 30 16 [chart] tShelf [] = true := by kernel_rfl
theorem r_cHeld : tree Try.prog [] ov1 30 9 [chart] tHeld [] = true := by kernel_rfl
theorem r_cFirst : tree Try.prog [] ov1 30 42 [chart, i6] tFirst [] = true := by kernel_rfl
theorem r_cNext : tree Try.prog [] ov1 30 18 [chart, i6] tNext [] = true := by kernel_rfl
theorem r_cLink : tree Try.prog [] ov1 30 63 [chart, i6, k7] tLink [] = true := by kernel_rfl
theorem r_cKey : tree Try.prog [] ov1 30 62 [chart, i6] tKey [] = true := by kernel_rfl
section
variable {a b c d e key i k : Int}
theorem ok1 : OvOk Try.prog [] (s1 a b c d e key i k) ov1 :=
  ov_cons ov_nil rfl rfl ⟨Try.f25, _, Try.func25, by kernel_rfl, rfl⟩ (known (σ := s0 a b c d e key i k) ov_nil rfl r_cCheck (no_bad rfl) rfl rfl rfl)
end
end Go.Proofs.Ytmfemophafncnaa.chartPlaces

/-
  The places of a chart that may be: contracts out of the trees. No condition.
-/
namespace Go.Proofs.Ytmfemophafncnaa.Apart
open Go Ex chartPlaces
/-- a chart as a value -/
abbrev chV (C S O d e key : Int) : Value := .agg #[.int .i64 C, .int .i64 S, .int .i64 O, .int .i64 d, .int .i64 e, .int .u64 key]
theorem wrap_id {n : Int} (h : -9223372036854775808 ≤ n ∧ n ≤ 9223372036854775807) : IntKind.i64.wrap n = n := by
  simp [IntKind.wrap, IntKind.signed, IntKind.bits]
  split <;> omega
section
variable {C S O d e key i k : Int} {W w : World} {m : List (Nat × Obj)}
theorem ok_64 (h : Ok C S O d e) : I64 C ∧ I64 S ∧ I64 O := by unfold Ok at h; unfold I64; omega
theorem s1_8 (h : Ok C S O d e) : s1 C S O d e key i k 8 = 0 := by
  show chartPlaces.chk C S O d e key i k = 0
  unfold chartPlaces.chk
  rw [chk_is, if_pos h]
  rfl
theorem place (h : Ok C S O d e) {f : FuncId} {xs : List AV} {t : DT} (ht : tree Try.prog [] ov1 30 f xs t [] = true) (ha : AV.shuts xs = true) (hb : ¬ BadP (s1 C S O d e key i k) t) (hO : Own W m w) :
    Calls Try.prog f (valsOf (s1 C S O d e key i k) xs).toArray w fun r w' => r = .returned (endOf (s1 C S O d e key i k) t) ∧ Own W m w' := by
  refine (tree_ends mixed ok1 ha t [] (by simp) ht hb w tabs_nil).mono ?_
  rintro _ _ ⟨⟨x, rfl, hx⟩, h2⟩
  exact ⟨by rw [ends_of hx], hO.then_below h2⟩
theorem mul_ok (h : Ok C S O d e) : 0 ≤ S * O ∧ S * O ≤ 512 := by
  unfold Ok at h
  have h1 : S * O ≤ 32 * O := Int.mul_le_mul_of_nonneg_right (by omega) (by omega)
  have h2 : 0 ≤ S * O := Int.mul_nonneg (by omega) (by omega)
  omega
theorem check_ok (h : Ok C S O d e) (hO : Own W m w) : Calls Try.prog 25 #[chV C S O d e key] w fun r w' => r = .returned (.int .i64 0) ∧ Own W m w' := by
  refine (tree_ends (σ := s0 C S O d e key 0 0) mixed ov_nil (args := [chart]) rfl tChk [] (by simp) r_cCheck (no_bad rfl) w tabs_nil).mono ?_
  rintro _ _ ⟨⟨x, rfl, hx⟩, h2⟩
  refine ⟨?_, hO.then_below h2⟩
  rw [ends_of hx, chk_is, if_pos h]
theorem words_ok (h : Ok C S O d e) (hO : Own W m w) : Calls Try.prog 14 #[chV C S O d e key] w fun r w' => r = .returned (.int .i64 (4 * C + 4 + 4 * S + S * O)) ∧ Own W m w' := by
  refine (place (key := key) (i := 0) (k := 0) h r_cWords rfl (bad_words _ _ _ _ _ _ _ _) hO).mono ?_
  rintro _ _ ⟨rfl, h2⟩
  refine ⟨?_, h2⟩
  have hm := mul_ok h
  have h8 := s1_8 (key := key) (i := 0) (k := 0) h
  have e0 : s1 C S O d e key 0 0 0 = C := rfl
  have e1 : s1 C S O d e key 0 0 1 = S := rfl
  have e2 : s1 C S O d e key 0 0 2 = O := rfl
  unfold Ok at h
  simp only [tWords, chain, endOf, Cnd.ev, okQ, v, l, SE.ev, is, num, h8, e0, e1, e2, Ex.valOf, add, mul, links, slabs, base, decide_eq_true_eq, beq_self_eq_true, if_true]
  rw [if_neg (by omega), if_neg (by omega), if_neg (by omega), if_neg (by omega), if_neg (by omega), if_neg (by omega)]
  rw [wrap_id (n := 4 * C) (by omega), wrap_id (n := 4 * C + 4) (by omega), wrap_id (n := 4 * S) (by omega), wrap_id (n := 4 * C + 4 + 4 * S) (by omega), wrap_id (n := S * O) (by omega), wrap_id (n := 4 * C + 4 + 4 * S + S * O) (by omega)]
theorem lock_ok (h : Ok C S O d e) (hO : Own W m w) : Calls Try.prog 26 #[chV C S O d e key] w fun r w' => r = .returned (.int .i64 (4 * C)) ∧ Own W m w' := by
  refine (place (key := key) (i := 0) (k := 0) h r_cLock rfl (no_bad rfl) hO).mono ?_
  rintro _ _ ⟨rfl, h2⟩
  refine ⟨?_, h2⟩
  have h8 := s1_8 (key := key) (i := 0) (k := 0) h
  have e0 : s1 C S O d e key 0 0 0 = C := rfl
  have e1 : s1 C S O d e key 0 0 1 = S := rfl
  have e2 : s1 C S O d e key 0 0 2 = O := rfl
  have e6 : s1 C S O d e key 0 0 6 = 0 := rfl
  have e7 : s1 C S O d e key 0 0 7 = 0 := rfl
  unfold Ok at h
  simp only [tLock, t0, t1, endOf, Cnd.ev, okQ, v, l, SE.ev, is, no, num, h8, e0, e1, e2, e6, e7, Ex.valOf, add, mul, links, slabs, base, decide_eq_true_eq, beq_self_eq_true, if_true]
  rw [wrap_id (n := 4 * C) (by omega)]
theorem shelf_ok (h : Ok C S O d e) (hO : Own W m w) : Calls Try.prog 16 #[chV C S O d e key] w fun r w' => r = .returned (.int .i64 (4 * C + 1)) ∧ Own W m w' := by
  refine (place (key := key) (i := 0) (k := 0) h r_cShelf rfl (no_bad rfl) hO).mono ?_
  rintro _ _ ⟨rfl, h2⟩
  refine ⟨?_, h2⟩
  have h8 := s1_8 (key := key) (i := 0) (k := 0) h
  have e0 : s1 C S O d e key 0 0 0 = C := rfl
  have e1 : s1 C S O d e key 0 0 1 = S := rfl
  have e2 : s1 C S O d e key 0 0 2 = O := rfl
  have e6 : s1 C S O d e key 0 0 6 = 0 := rfl
  have e7 : s1 C S O d e key 0 0 7 = 0 := rfl
  unfold Ok at h
  simp only [tShelf, t0, t1, endOf, Cnd.ev, okQ, v, l, SE.ev, is, no, num, h8, e0, e1, e2, e6, e7, Ex.valOf, add, mul, links, slabs, base, decide_eq_true_eq, beq_self_eq_true, if_true]
  rw [wrap_id (n := 4 * C) (by omega), wrap_id (n := 4 * C + 1) (by omega)]
theorem held_ok (h : Ok C S O d e) (hO : Own W m w) : Calls Try.prog 9 #[chV C S O d e key] w fun r w' => r = .returned (.int .i64 (4 * C + 2)) ∧ Own W m w' := by
  refine (place (key := key) (i := 0) (k := 0) h r_cHeld rfl (no_bad rfl) hO).mono ?_
  rintro _ _ ⟨rfl, h2⟩
  refine ⟨?_, h2⟩
  have h8 := s1_8 (key := key) (i := 0) (k := 0) h
  have e0 : s1 C S O d e key 0 0 0 = C := rfl
  have e1 : s1 C S O d e key 0 0 1 = S := rfl
  have e2 : s1 C S O d e key 0 0 2 = O := rfl
  have e6 : s1 C S O d e key 0 0 6 = 0 := rfl
  have e7 : s1 C S O d e key 0 0 7 = 0 := rfl
  unfold Ok at h
  simp only [tHeld, t0, t1, endOf, Cnd.ev, okQ, v, l, SE.ev, is, no, num, h8, e0, e1, e2, e6, e7, Ex.valOf, add, mul, links, slabs, base, decide_eq_true_eq, beq_self_eq_true, if_true]
  rw [wrap_id (n := 4 * C) (by omega), wrap_id (n := 4 * C + 2) (by omega)]
theorem head_ok (h : Ok C S O d e) (hi : 0 ≤ i ∧ i < C) (hO : Own W m w) : Calls Try.prog 21 #[chV C S O d e key, .int .i64 i] w fun r w' => r = .returned (.int .i64 (4 * i)) ∧ Own W m w' := by
  refine (place (key := key) (i := i) (k := 0) h r_cHead rfl (no_bad rfl) hO).mono ?_
  rintro _ _ ⟨rfl, h2⟩
  refine ⟨?_, h2⟩
  have h8 := s1_8 (key := key) (i := i) (k := 0) h
  have e0 : s1 C S O d e key i 0 0 = C := rfl
  have e1 : s1 C S O d e key i 0 1 = S := rfl
  have e2 : s1 C S O d e key i 0 2 = O := rfl
  have e6 : s1 C S O d e key i 0 6 = i := rfl
  have e7 : s1 C S O d e key i 0 7 = 0 := rfl
  unfold Ok at h
  simp only [tHead, t0, t1, endOf, Cnd.ev, okQ, v, l, SE.ev, is, no, num, h8, e0, e1, e2, e6, e7, Ex.valOf, add, mul, links, slabs, base, decide_eq_true_eq, beq_self_eq_true, if_true]
  rw [if_neg (by omega), if_pos (by omega)]
  rw [wrap_id (n := 4 * i) (by omega)]
theorem part_ok (h : Ok C S O d e) (hi : 0 ≤ i ∧ i < C) (hO : Own W m w) : Calls Try.prog 22 #[chV C S O d e key, .int .i64 i] w fun r w' => r = .returned (.int .i64 (4 * i + 2)) ∧ Own W m w' := by
  refine (place (key := key) (i := i) (k := 0) h r_cPart rfl (no_bad rfl) hO).mono ?_
  rintro _ _ ⟨rfl, h2⟩
  refine ⟨?_, h2⟩
  have h8 := s1_8 (key := key) (i := i) (k := 0) h
  have e0 : s1 C S O d e key i 0 0 = C := rfl
  have e1 : s1 C S O d e key i 0 1 = S := rfl
  have e2 : s1 C S O d e key i 0 2 = O := rfl
  have e6 : s1 C S O d e key i 0 6 = i := rfl
  have e7 : s1 C S O d e key i 0 7 = 0 := rfl
  unfold Ok at h
  simp only [tPart, t0, t1, endOf, Cnd.ev, okQ, v, l, SE.ev, is, no, num, h8, e0, e1, e2, e6, e7, Ex.valOf, add, mul, links, slabs, base, decide_eq_true_eq, beq_self_eq_true, if_true]
  rw [if_neg (by omega), if_pos (by omega)]
  rw [wrap_id (n := 4 * i) (by omega), wrap_id (n := 4 * i + 2) (by omega)]
theorem first_ok (h : Ok C S O d e) (hi : 0 ≤ i ∧ i < S) (hO : Own W m w) : Calls Try.prog 42 #[chV C S O d e key, .int .i64 i] w fun r w' => r = .returned (.int .i64 (4 * C + 4 + 4 * i)) ∧ Own W m w' := by
  refine (place (key := key) (i := i) (k := 0) h r_cFirst rfl (no_bad rfl) hO).mono ?_
  rintro _ _ ⟨rfl, h2⟩
  refine ⟨?_, h2⟩
  have h8 := s1_8 (key := key) (i := i) (k := 0) h
  have e0 : s1 C S O d e key i 0 0 = C := rfl
  have e1 : s1 C S O d e key i 0 1 = S := rfl
  have e2 : s1 C S O d e key i 0 2 = O := rfl
  have e6 : s1 C S O d e key i 0 6 = i := rfl
  have e7 : s1 C S O d e key i 0 7 = 0 := rfl
  unfold Ok at h
  simp only [tFirst, t0, t1, endOf, Cnd.ev, okQ, v, l, SE.ev, is, no, num, h8, e0, e1, e2, e6, e7, Ex.valOf, add, mul, links, slabs, base, decide_eq_true_eq, beq_self_eq_true, if_true]
  rw [if_neg (by omega), if_pos (by omega)]
  rw [wrap_id (n := 4 * C) (by omega), wrap_id (n := 4 * C + 4) (by omega), wrap_id (n := 4 * i) (by omega), wrap_id (n := 4 * C + 4 + 4 * i) (by omega)]
theorem next_ok (h : Ok C S O d e) (hi : 0 ≤ i ∧ i < S) (hO : Own W m w) : Calls Try.prog 18 #[chV C S O d e key, .int .i64 i] w fun r w' => r = .returned (.int .i64 (4 * C + 4 + 4 * i + 2)) ∧ Own W m w' := by
  refine (place (key := key) (i := i) (k := 0) h r_cNext rfl (no_bad rfl) hO).mono ?_
  rintro _ _ ⟨rfl, h2⟩
  refine ⟨?_, h2⟩
  have h8 := s1_8 (key := key) (i := i) (k := 0) h
  have e0 : s1 C S O d e key i 0 0 = C := rfl
  have e1 : s1 C S O d e key i 0 1 = S := rfl
  have e2 : s1 C S O d e key i 0 2 = O := rfl
  have e6 : s1 C S O d e key i 0 6 = i := rfl
  have e7 : s1 C S O d e key i 0 7 = 0 := rfl
  unfold Ok at h
  simp only [tNext, t0, t1, endOf, Cnd.ev, okQ, v, l, SE.ev, is, no, num, h8, e0, e1, e2, e6, e7, Ex.valOf, add, mul, links, slabs, base, decide_eq_true_eq, beq_self_eq_true, if_true]
  rw [if_neg (by omega), if_pos (by omega)]
  rw [wrap_id (n := 4 * C) (by omega), wrap_id (n := 4 * C + 4) (by omega), wrap_id (n := 4 * i) (by omega), wrap_id (n := 4 * C + 4 + 4 * i) (by omega), wrap_id (n := 4 * C + 4 + 4 * i + 2) (by omega)]
theorem link_ok (h : Ok C S O d e) (hi : 0 ≤ i ∧ i < S) (hk : 0 ≤ k ∧ k < O) (hO : Own W m w) : Calls Try.prog 63 #[chV C S O d e key, .int .i64 i, .int .i64 k] w fun r w' => r = .returned (.int .i64 (4 * C + 4 + 4 * S + i * O + k)) ∧ Own W m w' := by
  refine (place (key := key) (i := i) (k := k) h r_cLink rfl (no_bad rfl) hO).mono ?_
  rintro _ _ ⟨rfl, h2⟩
  refine ⟨?_, h2⟩
  have hm : 0 ≤ i * O ∧ i * O ≤ 32 * O := ⟨Int.mul_nonneg (by omega) (by omega), Int.mul_le_mul_of_nonneg_right (by unfold Ok at h; omega) (by omega)⟩
  have h8 := s1_8 (key := key) (i := i) (k := k) h
  have e0 : s1 C S O d e key i k 0 = C := rfl
  have e1 : s1 C S O d e key i k 1 = S := rfl
  have e2 : s1 C S O d e key i k 2 = O := rfl
  have e6 : s1 C S O d e key i k 6 = i := rfl
  have e7 : s1 C S O d e key i k 7 = k := rfl
  unfold Ok at h
  simp only [tLink, t0, t1, endOf, Cnd.ev, okQ, v, l, SE.ev, is, no, num, h8, e0, e1, e2, e6, e7, Ex.valOf, add, mul, links, slabs, base, decide_eq_true_eq, beq_self_eq_true, if_true]
  rw [if_neg (by omega), if_pos (by omega), if_neg (by omega), if_pos (by omega)]
  rw [wrap_id (n := 4 * C) (by omega), wrap_id (n := 4 * C + 4) (by omega), wrap_id (n := 4 * S) (by omega), wrap_id (n := 4 * C + 4 + 4 * S) (by omega), wrap_id (n := i * O) (by omega), wrap_id (n := 4 * C + 4 + 4 * S + i * O) (by omega), wrap_id (n := 4 * C + 4 + 4 * S + i * O + k) (by omega)]
end
section
open Go.RowKit
variable {W w : World} {m : List (Nat × Obj)}
/-- a chart's block -/
def chB (b : Nat) (C S O d e key : Int) : Nat × Obj := (b, .cells #[.int .i64 C, .int .i64 S, .int .i64 O, .int .i64 d, .int .i64 e, .int .u64 key] 28)
def ChAt (w : World) (b : Nat) (C S O d e key : Int) : Prop :=
    w.cell? ⟨b, 0, none⟩ = some (.int .i64 C) ∧ w.cell? ⟨b, 1, none⟩ = some (.int .i64 S) ∧ w.cell? ⟨b, 2, none⟩ = some (.int .i64 O) ∧ w.cell? ⟨b, 3, none⟩ = some (.int .i64 d) ∧ w.cell? ⟨b, 4, none⟩ = some (.int .i64 e) ∧ w.cell? ⟨b, 5, none⟩ = some (.int .u64 key)
theorem box6 {b : Nat} {C S O d e key : Int} (h : Own W (chB b C S O d e key :: m) w) : ChAt w b C S O d e key :=
  ⟨h.cell List.mem_cons_self 0, h.cell List.mem_cons_self 1, h.cell List.mem_cons_self 2, h.cell List.mem_cons_self 3, h.cell List.mem_cons_self 4, h.cell List.mem_cons_self 5⟩
theorem box6' {b : Nat} {C S O d e key : Int} {bs : List (Nat × Obj)} (h : Own W (bs ++ chB b C S O d e key :: m) w) : ChAt w b C S O d e key := box6 (h.perm List.perm_middle)
end
end Go.Proofs.Ytmfemophafncnaa.Apart

/-
  append at a step of a region that draws its order: for 'go_region_held3'. No condition but sizes.
-/
namespace Go.Proofs.Ytmfemophafncnaa
open Go.RowKit
section
variable {W w : World} {m : List (Nat × Obj)} {e size n : Nat} {v : Value} {xs : List Value} {bs : List (Nat × Obj)} {P : Program}
/-- '((with_reducible refine step_app (by rfl) _ _ _ (by rfl) (by rfl) (by rfl) ..); intro v' w' bs' k1 k2)' -/
theorem step_app {ops : Array Oper} {o : Oper} {a : Act} {K : Act → World → Prop} {Q : Exit → Act → World → Prop} {E : Prop} (hgd : o.guard = none) (s x : Operand) (t : TypeId)
    (ho : o.op = .call { callee := .builtin .append, args := #[s, x], argTypes := #[t, t] }) {v xv : Value} (hes : a.eval s = v) (hex : a.eval x = xv)
    (e : TypeId) (i : TypeInfo) (z : Value) (size bytes : Nat) (ht : P.underlying t = some (.slice e)) (hi : P.info? e = some i) (hz : i.zero = some z)
    (hsize : i.size = size) (hby : i.bytes = bytes) (hzs : z.cells.size = size) (hsz : 0 < size)
    (hs : SlOwn e size v n xs bs) (hO : Own W (bs ++ m) w) {k : Nat} {news : List Value} (hx : Src w size xv k news) (h1 : ∀ u ∈ news, u.oneCell' = true)
    (h63 : n + k ≤ maxLen) (hbytes : (n + k) * bytes ≤ 140737488355328)
    (h : ∀ v' w' bs', SlOwn e size v' (n + k) (xs ++ news) bs' → Own W (bs' ++ m) w' → K (a.put o.dst v') w') :
    if Region.wanted o (yielded ops a.tmps) = true then Oper.wp P o a w K Q else E := by
  have hw : Region.wanted o (yielded ops a.tmps) = true := by simp [Region.wanted, hgd]
  rw [if_pos hw]
  obtain ⟨v', w', bs', hr, h2, h3, h4⟩ := run_app (P := P) t o.type e i z size bytes ht hi hz hsize hby hzs hsz hs hO hx h1 h63 hbytes
  unfold Oper.wp execOp
  simp only [ho, resolve, invoke, builtin, Sem.run_bind, Sem.run_pure, Result.andThen_ok, List.map_toArray, List.map_cons, List.map_nil, hes, hex, hr]
  exact h v' w' bs' h2 h3
end
end Go.Proofs.Ytmfemophafncnaa

/-
  append of numbers at a step of a region that draws its order. No condition but sizes.
-/
namespace Go.Proofs.Ytmfemophafncnaa
open Go.RowKit
section
variable {W w : World} {m bs : List (Nat × Obj)} {l l' : List Int}
theorem step_app_ints {ops : Array Oper} {o : Oper} {a : Act} {K : Act → World → Prop} {Q : Exit → Act → World → Prop} {E : Prop} (hgd : o.guard = none) (s x : Operand)
    (ho : o.op = .call { callee := .builtin .append, args := #[s, x], argTypes := #[22, 22] }) {v xv : Value} (hes : a.eval s = v) (hex : a.eval x = xv)
    (hs : IntsOwn true v l bs) (hO : Own W (bs ++ m) w) (hx : IntsSrc w xv l') (hlen : l.length + l'.length ≤ 60000)
    (h : ∀ v' w' bs', IntsOwn true v' (l ++ l') bs' → Own W (bs' ++ m) w' → K (a.put o.dst v') w') :
    if Region.wanted o (yielded ops a.tmps) = true then Oper.wp Try.prog o a w K Q else E := by
  obtain ⟨i, hi, hz, hsz, hb⟩ := info_get int_info
  refine step_app hgd s x _ ho hes hex 3 i _ 1 8 Try.underlying22 hi hz hsz hb rfl (by omega) hs hO hx (ints_one l') (by unfold maxLen; omega) (by omega) fun v' w' bs' h1 h2 => ?_
  rw [ints_append, ← List.length_append] at h1
  exact h v' w' bs' h1 h2
end
end Go.Proofs.Ytmfemophafncnaa

/-
  Contracts: a slab's list (reader.list), its key. No condition.
-/
namespace Go.Proofs.Ytmfemophafncnaa.See
open Go.RowKit
open Apart (chV)
open chartPlaces (Ok)
attribute [local go_sem ↓] Go.wp_at_zero Go.wp_at_succ
/-- a chart that may be -/
structure COk (c : Ch) (d e : Int) : Prop where
  ok : Ok c.C c.S c.O d e
  key : c.key < 18446744073709551616
theorem COk.nums {c : Ch} {d e : Int} (h : COk c d e) : 1 ≤ c.C ∧ c.C ≤ 8 ∧ 1 ≤ c.S ∧ c.S ≤ 32 ∧ 1 ≤ c.O ∧ c.O ≤ 16 := by
  have := h.ok
  unfold Ok at this
  omega
abbrev cV (c : Ch) (d e : Int) : Value := chV c.C c.S c.O d e c.key
/-- a reader -/
abbrev rV (B o N k : Nat) (c : Ch) (d e : Int) : Value := .agg #[.slice (some ⟨B, o, none⟩) N k, .int .i64 c.C, .int .i64 c.S, .int .i64 c.O, .int .i64 d, .int .i64 e, .int .u64 c.key]
theorem keyOf_lt (k s : Nat) : keyOf k s < 18446744073709551616 := Nat.mod_lt _ (by omega)
section
variable {W w : World} {m : List (Nat × Obj)} {B o N k : Nat} {g : List Nat} {c : Ch} {d e : Int}
set_option maxRecDepth 100000 in
theorem key_spec (s : Nat) (hs : s < 32) (h : Own W m w) : Calls Try.prog 62 #[cV c d e, .int .i64 s] w fun r w' => r = .returned (.int .u64 (keyOf c.key s : Nat)) ∧ Own W m w' := by
  have h1 := h.alloc (.cells #[.int .i64 c.C, .int .i64 c.S, .int .i64 c.O, .int .i64 d, .int .i64 e, .int .u64 c.key] 28)
  have hv : IntKind.u64.wrap ((c.key : Int) + IntKind.u64.wrap ((s : Int) * 11400714819323198485)) = ((keyOf c.key s : Nat) : Int) := by
    unfold keyOf
    rw [IntKind.wrap_u64, IntKind.wrap_u64]
    omega
  have HV := Lib.hid hv
  clear hv
  unfold cV chV
  go_enter Try.func62, Try.ntmps62
  go_wp2_with fail
  go_ret
  exact ⟨by rw [← HV.out]; rfl, h1⟩
/-- words of a core: as many as its chart says -/
structure WOk (W : World) (m : List (Nat × Obj)) (B o N k : Nat) (g : List Nat) (c : Ch) : Prop where
  rd : Rd W m B o g
  len : g.length = N
  n : N = c.words
  w64 : W64 g
  nk : N ≤ k
  km : k ≤ maxLen
theorem WOk.more {m' : List (Nat × Obj)} (h : WOk W m B o N k g c) : WOk W (m' ++ m) B o N k g c := ⟨h.rd.more, h.len, h.n, h.w64, h.nk, h.km⟩
theorem mul_in {s : Nat} (hs : s < c.S) : s * c.O + c.O ≤ c.S * c.O := by
  have := Nat.mul_le_mul_right c.O (show s + 1 ≤ c.S by omega)
  rw [Nat.succ_mul] at this
  exact this
theorem rd_links (h : WOk W m B o N k g c) {s : Nat} (hs : s < c.S) : Rd W m B (o + (4 * c.C + 4 + 4 * c.S + s * c.O)) (links c g s) := fun ws hw j x hj => by
  have hlt := (List.getElem?_eq_some_iff.1 hj).1
  rw [links_len (h.len.trans h.n) hs] at hlt
  rw [links_get (h.len.trans h.n) hs hlt] at hj
  have hm := mul_in hs
  have hn := h.len.trans h.n
  unfold Ch.words at hn
  have hx : g[4 * c.C + 4 + 4 * c.S + s * c.O + j]? = some x := by
    rw [List.getElem?_eq_getElem (by omega)]
    unfold at_ at hj
    rw [List.getD_eq_getElem?_getD, List.getElem?_eq_getElem (by omega)] at hj
    exact hj
  have := h.rd ws hw _ x hx
  rw [← Nat.add_assoc] at this
  exact this
theorem w64_links (h : WOk W m B o N k g c) (s : Nat) : W64 (links c g s) := fun x hx => by
  unfold links at hx
  exact h.w64 x (List.mem_of_mem_drop (List.mem_of_mem_take hx))
/-- a reader's block -/
def rBlk (b B o N k : Nat) (c : Ch) (d e : Int) : Nat × Obj := (b, .cells #[.slice (some ⟨B, o, none⟩) N k, .int .i64 c.C, .int .i64 c.S, .int .i64 c.O, .int .i64 d, .int .i64 e, .int .u64 c.key] 66)
theorem box7 {b : Nat} (h : Own W (rBlk b B o N k c d e :: m) w) : w.cell? ⟨b, 0, none⟩ = some (.slice (some ⟨B, o, none⟩) N k) ∧ w.cell? ⟨b, 1, none⟩ = some (.int .i64 c.C) ∧ w.cell? ⟨b, 2, none⟩ = some (.int .i64 c.S) ∧ w.cell? ⟨b, 3, none⟩ = some (.int .i64 c.O) ∧ w.cell? ⟨b, 4, none⟩ = some (.int .i64 d) ∧ w.cell? ⟨b, 5, none⟩ = some (.int .i64 e) ∧ w.cell? ⟨b, 6, none⟩ = some (.int .u64 c.key) :=
  ⟨h.cell List.mem_cons_self 0, h.cell List.mem_cons_self 1, h.cell List.mem_cons_self 2, h.cell List.mem_cons_self 3, h.cell List.mem_cons_self 4, h.cell List.mem_cons_self 5, h.cell List.mem_cons_self 6⟩
/-- what list answers -/
def RlPost (W : World) (m : List (Nat × Obj)) (r : Option (List Int)) (e : Ending) (w' : World) : Prop := match r with
  | some l => ∃ v bs, e = .returned (.tuple #[v, .bool true]) ∧ Hid (IntsOwn true v l bs) ∧ Own W (bs ++ m) w'
  | none => e = .returned (.tuple #[.slice none 0 0, .bool false]) ∧ Own W m w'
theorem listP_in {s : Nat} (hs : s < c.S) {i : Int} (h0 : -1 ≤ i) (h1 : i < c.O) : listP c g s i = walk (shW (keyOf c.key s)) (links c g s) (c.O + 1) [] i := by
  unfold listP
  rw [if_pos ⟨by omega, by omega, h0, h1⟩]
  rfl
theorem listP_out {s : Nat} {i : Int} (h1 : (c.O : Int) ≤ i) : listP c g s i = none := by
  unfold listP
  rw [if_neg (by omega)]
set_option maxRecDepth 100000 in
set_option maxHeartbeats 2000000 in
theorem rlist_spec (h : Own W m w) (hc : COk c d e) (hw : WOk W m B o N k g c) (s : Nat) (hs : s < c.S) (i : Int) (hi : -1 ≤ i) :
    Calls Try.prog 55 #[rV B o N k c d e, .int .i64 s, .int .i64 i] w (RlPost W m (listP c g s i)) := by
  obtain ⟨n1, n2, n3, n4, n5, n6⟩ := hc.nums
  have h1 := h.new (.cells #[.slice (some ⟨B, o, none⟩) N k, .int .i64 c.C, .int .i64 c.S, .int .i64 c.O, .int .i64 d, .int .i64 e, .int .u64 c.key] 66)
  obtain ⟨b, hb⟩ : ∃ b, w.heap.size = b := ⟨_, rfl⟩
  rw [hb] at h1
  have h1 : Own W (rBlk b B o N k c d e :: m) _ := h1
  obtain ⟨y0, y1, y2, y3, y4, y5, y6⟩ := box7 h1
  by_cases hio : i < c.O
  · have hnio : ¬ (c.O : Int) ≤ i := by omega
    have hsi : 0 ≤ (s : Int) ∧ (s : Int) < (c.S : Int) := by omega
    have hm := mul_in hs
    have hN := hw.n
    unfold Ch.words at hN
    have hle : 4 * c.C + 4 + 4 * c.S + s * c.O + c.O ≤ N := by omega
    have hnk := hw.nk
    have hkm := hw.km
    have hls := fun ws (hws : Own W (rBlk b B o N k c d e :: m) ws) => list_spec (c := k - (4 * c.C + 4 + 4 * c.S + s * c.O)) hws ((rd_links hw hs).more (m' := [rBlk b B o N k c d e])) (n := c.O) (links_len (hw.len.trans hw.n) hs) n6 (w64_links hw s) (by omega) (by omega) (keyOf c.key s) (keyOf_lt _ _) i hi hio
    rw [← listP_in hs hi hio] at hls
    clear hN hm hkm
    have HC := Lib.hid hc
    have HS := Lib.hid hsi
    have HM := Lib.hid hw.rd
    obtain ⟨p, hp⟩ : ∃ p : Nat, 4 * c.C + 4 + 4 * c.S + s * c.O = p := ⟨_, rfl⟩
    have hpi : 4 * (c.C : Int) + 4 + 4 * (c.S : Int) + (s : Int) * (c.O : Int) + 0 = (p : Int) := by rw [← hp]; push_cast; omega
    have HPI := Lib.hid hpi
    rw [hp] at hle hls
    have hs32 : s < 32 := by omega
    have hp0 : (0 : Int) ≤ (p : Int) := by omega
    have hpN : p ≤ 700 := by
      have := Nat.mul_le_mul (show s ≤ 32 by omega) n6
      omega
    have hw1 : IntKind.i64.wrap ((p : Int) + (c.O : Int)) = (p : Int) + (c.O : Int) := by rw [IntWalk.i64_in] <;> omega
    have hp1 : (p : Int) ≤ (p : Int) + (c.O : Int) := by omega
    have hp2 : (p : Int) + (c.O : Int) ≤ (N : Int) := by omega
    have hp3 : (p : Int) + (c.O : Int) ≤ (k : Int) := by omega
    have HLN : Hid (((p : Int) + (c.O : Int)).toNat - p = c.O) := by
      show _ = _
      omega
    clear hp hpi hw hc
    obtain ⟨R, hR⟩ : ∃ R, listP c g s i = R := ⟨_, rfl⟩
    rw [hR] at hls ⊢
    clear hR
    unfold rV
    cases R with
    | none =>
      have HL := Lib.hid hls
      clear hls
      go_enter Try.func55, Try.ntmps55
      go_wp2_with fail
      refine (Apart.link_ok HC.out.ok HS.out (k := 0) (by omega) h1).mono ?_
      rintro r w2 ⟨rfl, h2⟩
      rw [HPI.out]
      clear y0 y1 y2 y3 y4 y5 y6
      obtain ⟨y0, y1, y2, y3, y4, y5, y6⟩ := box7 h2
      have H2 := Lib.hid h2
      clear h1 h2
      go_wp2_with fail
      go_region_held3 (fun w' => w'.cell? ⟨b, 0, none⟩ = some (.slice (some ⟨B, o, none⟩) N k) ∧ w'.cell? ⟨b, 1, none⟩ = some (.int .i64 c.C) ∧ w'.cell? ⟨b, 2, none⟩ = some (.int .i64 c.S) ∧ w'.cell? ⟨b, 3, none⟩ = some (.int .i64 c.O) ∧ w'.cell? ⟨b, 4, none⟩ = some (.int .i64 d) ∧ w'.cell? ⟨b, 5, none⟩ = some (.int .i64 e) ∧ w'.cell? ⟨b, 6, none⟩ = some (.int .u64 c.key)) (first | (refine ⟨?_, ?_, ?_, ?_, ?_, ?_, ?_⟩ <;> assumption) | go_keep)
        (first | (go_at_call 62; refine (key_spec s hs32 H2.out.drew).mono ?_; rintro r w3 ⟨rfl, h3⟩; obtain ⟨y0, y1, y2, y3, y4, y5, y6⟩ := box7 h3) |
          (go_at_call 68; rw [HLN.out]; refine (HL.out _ h3).mono ?_; rintro r w4 ⟨rfl, h4⟩; obtain ⟨y0, y1, y2, y3, y4, y5, y6⟩ := box7 h4))
      go_wp2_with fail
      go_ret2
      exact ⟨rfl, h4.skip⟩
    | some l =>
      have HL := Lib.hid hls
      clear hls
      go_enter Try.func55, Try.ntmps55
      go_wp2_with fail
      refine (Apart.link_ok HC.out.ok HS.out (k := 0) (by omega) h1).mono ?_
      rintro r w2 ⟨rfl, h2⟩
      rw [HPI.out]
      clear y0 y1 y2 y3 y4 y5 y6
      obtain ⟨y0, y1, y2, y3, y4, y5, y6⟩ := box7 h2
      have H2 := Lib.hid h2
      clear h1 h2
      go_wp2_with fail
      go_region_held3 (fun w' => w'.cell? ⟨b, 0, none⟩ = some (.slice (some ⟨B, o, none⟩) N k) ∧ w'.cell? ⟨b, 1, none⟩ = some (.int .i64 c.C) ∧ w'.cell? ⟨b, 2, none⟩ = some (.int .i64 c.S) ∧ w'.cell? ⟨b, 3, none⟩ = some (.int .i64 c.O) ∧ w'.cell? ⟨b, 4, none⟩ = some (.int .i64 d) ∧ w'.cell? ⟨b, 5, none⟩ = some (.int .i64 e) ∧ w'.cell? ⟨b, 6, none⟩ = some (.int .u64 c.key)) (first | (refine ⟨?_, ?_, ?_, ?_, ?_, ?_, ?_⟩ <;> assumption) | go_keep)
        (first | (go_at_call 62; refine (key_spec s hs32 H2.out.drew).mono ?_; rintro r w3 ⟨rfl, h3⟩; obtain ⟨y0, y1, y2, y3, y4, y5, y6⟩ := box7 h3) |
          (go_at_call 68; rw [HLN.out]; refine (HL.out _ h3).mono ?_; rintro r w4 ⟨v4, bs4, rfl, K4, h4⟩; obtain ⟨y0, y1, y2, y3, y4, y5, y6⟩ := box7 (h4.perm List.perm_middle)))
      go_wp2_with fail
      go_ret2
      exact ⟨v4, bs4, rfl, K4, h4.drop1⟩
  · have hnio : (c.O : Int) ≤ i := by omega
    rw [listP_out hnio]
    unfold rV
    go_enter Try.func55, Try.ntmps55
    go_wp2_with fail
    go_ret2
    exact ⟨rfl, h1.skip⟩
end
end Go.Proofs.Ytmfemophafncnaa.See

/-
  A map from numbers to numbers that the call owns: look-up, store, delete. No condition but the number of entries.
-/
namespace Go.Proofs.Ytmfemophafncnaa
open Go.RowKit
open Go.Maps (Keyed)
open Go.ChangeMaps (setBlock modify_eq_set)
/-- entries that are a function on numbers -/
structure IM (es : Array MapEntry) (n : Nat) (f : Int → Option Int) : Prop where
  size : es.size ≤ n
  ints : ∀ x ∈ es.toList, ∃ k c, x.key = .int .i64 k ∧ x.val = .int .i64 c ∧ (Lit.int .i64 k).wf = true
  apart : ∀ (i j : Nat) (x y : MapEntry), es.toList[i]? = some x → es.toList[j]? = some y → x.key = y.key → i = j
  fits : ∀ k c, f k = some c ↔ ∃ x ∈ es.toList, x.key = .int .i64 k ∧ x.val = .int .i64 c
def fPut (f : Int → Option Int) (k c : Int) : Int → Option Int := fun j => if j = k then some c else f j
def fDel (f : Int → Option Int) (k : Int) : Int → Option Int := fun j => if j = k then none else f j
theorem IM.nil : IM #[] 0 (fun _ => none) := ⟨by simp, by simp, by simp, by simp⟩
theorem int_keyed' : Keyed Try.prog 3 := Go.Maps.int_keyed Try.underlying3
theorem keyOf_i64 {k : Int} (hk : (Lit.int .i64 k).wf = true) : keyOf Try.prog 3 (.int .i64 k) = some (.int .i64 k) := Go.Maps.keyOf_int_mk Try.underlying3 hk
theorem zero_i64 (w : World) : (zeroValue 3).run Try.prog w = .ok (.int .i64 0) w := by
  have hi : (Try.prog.info? 3).map (fun i => i.zero) = some (some (.int .i64 0)) := by kernel_rfl
  cases h : Try.prog.info? 3 with
  | none => rw [h] at hi; cases hi
  | some i =>
    rw [h] at hi
    simp at hi
    simp [zeroValue, typeInfo, h, hi]
section
variable {w : World} {es : Array MapEntry} {ck n b : Nat} {f : Int → Option Int}
theorem IM.keysOk (h : IM es n f) : ∀ e ∈ es.toList, ∃ l, keyOf Try.prog 3 e.key = some l := fun e he => by
  obtain ⟨k, c, hk, -, hw⟩ := h.ints e he
  exact ⟨_, by rw [hk]; exact keyOf_i64 hw⟩
theorem IM.none_of (h : IM es n f) {k : Int} (hk : ∀ e ∈ es.toList, e.key ≠ .int .i64 k) : f k = none := by
  cases hf : f k with
  | none => rfl
  | some c =>
    obtain ⟨x, hx, h1, -⟩ := (h.fits k c).1 hf
    exact absurd h1 (hk x hx)
theorem run_mapGet (h : IM es n f) (hb : w.heap[b]? = some (.map es ck)) {k : Int} (hk : (Lit.int .i64 k).wf = true) :
    (Instr.lookup 93 (.map (some b)) (.int .i64 k) true).run Try.prog w = .ok (.tuple #[.int .i64 ((f k).getD 0), .bool (f k).isSome]) w := by
  have hkey := keyOf_i64 hk
  have K := int_keyed'
  rcases K.find w hkey es.toList h.keysOk with ⟨h1, h2⟩ | ⟨j, e0, h1, h2, h3⟩
  · have hf := h.none_of h2
    simp [Instr.lookup, run_underlying Try.underlying93, MapKept.run_getObj_map hb, K.check w _ hkey, h1, Result.andThen, hf]
  · have hm := List.mem_of_getElem? h2
    obtain ⟨k', c, e1, e2, -⟩ := h.ints e0 hm
    have hf : f k = some c := (h.fits k c).2 ⟨e0, hm, h3, e2⟩
    simp [Instr.lookup, run_underlying Try.underlying93, MapKept.run_getObj_map hb, K.check w _ hkey, h1, Result.andThen, hf, e2]
theorem run_mapPut (h : IM es n f) (hb : w.heap[b]? = some (.map es ck)) (_hn : n < maxLen) {k : Int} (hk : (Lit.int .i64 k).wf = true) (c : Int) :
    ∃ es' ck', (Instr.mapUpdate 93 (.map (some b)) (.int .i64 k) (.int .i64 c)).run Try.prog w = .ok () (setBlock w b (.map es' ck')) ∧ IM es' (n + 1) (fPut f k c) := by
  have hkey := keyOf_i64 hk
  have K := int_keyed'
  rcases K.find w hkey es.toList h.keysOk with ⟨h1, h2⟩ | ⟨j, e0, h1, h2, h3⟩
  · refine ⟨es.push ⟨.int .i64 k, .int .i64 c, ck⟩, ck + 1, ?_, ⟨by have := h.size; simp; omega, ?_, ?_, ?_⟩⟩
    · simp [Instr.mapUpdate, run_underlying Try.underlying93, MapKept.run_getObj_map hb, K.check w false hkey, h1, MapKept.run_setObj_map _ hb, Result.andThen, setBlock]
    · intro x hx
      simp only [Array.toList_push, List.mem_append, List.mem_singleton] at hx
      rcases hx with hx | rfl
      · exact h.ints x hx
      · exact ⟨k, c, rfl, rfl, hk⟩
    · intro i j x y hx hy hxy
      rw [Array.toList_push, List.getElem?_append] at hx hy
      split at hx <;> split at hy
      · exact h.apart i j x y hx hy hxy
      · have : y = ⟨.int .i64 k, .int .i64 c, ck⟩ := by
          rw [List.getElem?_singleton] at hy; split at hy <;> simp_all
        subst this
        exact absurd hxy (h2 x (List.mem_of_getElem? hx))
      · have : x = ⟨.int .i64 k, .int .i64 c, ck⟩ := by
          rw [List.getElem?_singleton] at hx; split at hx <;> simp_all
        subst this
        exact absurd hxy.symm (h2 y (List.mem_of_getElem? hy))
      · rw [List.getElem?_singleton] at hx hy
        split at hx <;> split at hy <;> first | omega | simp_all
    · intro q d
      simp only [Array.toList_push, List.mem_append, List.mem_singleton, fPut]
      by_cases hq : q = k
      · subst hq
        rw [if_pos rfl]
        constructor
        · intro hd
          simp only [Option.some.injEq] at hd
          subst hd
          exact ⟨_, .inr rfl, rfl, rfl⟩
        · rintro ⟨x, hx | rfl, e1, e2⟩
          · exact absurd e1 (h2 x hx)
          · simp only [Value.int.injEq, true_and] at e2
            rw [e2]
      · rw [if_neg hq, h.fits q d]
        constructor
        · rintro ⟨x, hx, e1, e2⟩
          exact ⟨x, .inl hx, e1, e2⟩
        · rintro ⟨x, hx | rfl, e1, e2⟩
          · exact ⟨x, hx, e1, e2⟩
          · simp only [Value.int.injEq, true_and] at e1
            exact absurd e1.symm hq
  · have hj : es[j]? = some e0 := by simpa using h2
    have hjl : j < es.toList.length := (List.getElem?_eq_some_iff.1 h2).1
    have hlist : (es.modify j (fun e' => { e' with key := .int .i64 k, val := .int .i64 c })).toList = es.toList.set j { e0 with key := .int .i64 k, val := .int .i64 c } := by rw [Array.toList_modify, modify_eq_set _ _ _ _ h2]
    have hget : ∀ i, (es.toList.set j { e0 with key := .int .i64 k, val := .int .i64 c })[i]? = if i = j then some { e0 with key := .int .i64 k, val := .int .i64 c } else es.toList[i]? := fun i => by
      rw [List.getElem?_set]
      by_cases hij : j = i
      · subst hij; rw [if_pos rfl, if_pos rfl, if_pos hjl]
      · rw [if_neg hij, if_neg (fun e => hij e.symm)]
    have hmem : ∀ x, x ∈ es.toList.set j { e0 with key := .int .i64 k, val := .int .i64 c } ↔ x = { e0 with key := .int .i64 k, val := .int .i64 c } ∨ (x ∈ es.toList ∧ x.key ≠ .int .i64 k) := fun x => by
      constructor
      · intro hx
        obtain ⟨i, hi⟩ := List.getElem?_of_mem hx
        rw [hget] at hi
        split at hi
        · exact .inl (Option.some.inj hi).symm
        · rename_i hij
          exact .inr ⟨List.mem_of_getElem? hi, fun e => hij (h.apart i j x e0 hi h2 (e.trans h3.symm))⟩
      · rintro (rfl | ⟨hx, hne⟩)
        · exact List.mem_iff_getElem?.2 ⟨j, by rw [hget, if_pos rfl]⟩
        · obtain ⟨i, hi⟩ := List.getElem?_of_mem hx
          refine List.mem_iff_getElem?.2 ⟨i, ?_⟩
          rw [hget, if_neg, hi]
          rintro rfl
          rw [h2] at hi
          cases hi
          exact hne h3
    refine ⟨es.modify j (fun e' => { e' with key := .int .i64 k, val := .int .i64 c }), ck, ?_, ⟨by have := h.size; simp; omega, ?_, ?_, ?_⟩⟩
    · simp [Instr.mapUpdate, run_underlying Try.underlying93, MapKept.run_getObj_map hb, K.check w false hkey, h1, hj, h3, K.stays w hkey, MapKept.run_setObj_map _ hb, Result.andThen, setBlock]
    · intro x hx
      rw [hlist] at hx
      rcases (hmem x).1 hx with rfl | ⟨hx, -⟩
      · exact ⟨k, c, rfl, rfl, hk⟩
      · exact h.ints x hx
    · intro i i' x y hx hy hxy
      rw [hlist, hget] at hx hy
      split at hx <;> split at hy
      · omega
      · cases hx
        rename_i h5 h6
        exact absurd (h.apart i' j y e0 hy h2 (hxy.symm.trans h3.symm)) h6
      · cases hy
        rename_i h5 h6
        exact absurd (h.apart i j x e0 hx h2 (hxy.trans h3.symm)) h5
      · exact h.apart i i' x y hx hy hxy
    · intro q d
      rw [hlist]
      simp only [fPut]
      by_cases hq : q = k
      · subst hq
        rw [if_pos rfl]
        constructor
        · intro hd
          simp only [Option.some.injEq] at hd
          subst hd
          exact ⟨_, (hmem _).2 (.inl rfl), rfl, rfl⟩
        · rintro ⟨x, hx, e1, e2⟩
          rcases (hmem x).1 hx with rfl | ⟨-, hne⟩
          · simp only [Value.int.injEq, true_and] at e2
            rw [e2]
          · exact absurd e1 hne
      · rw [if_neg hq, h.fits q d]
        constructor
        · rintro ⟨x, hx, e1, e2⟩
          exact ⟨x, (hmem x).2 (.inr ⟨hx, by rw [e1]; intro he; simp only [Value.int.injEq, true_and] at he; exact hq he⟩), e1, e2⟩
        · rintro ⟨x, hx, e1, e2⟩
          rcases (hmem x).1 hx with rfl | ⟨hx, -⟩
          · simp only [Value.int.injEq, true_and] at e1
            exact absurd e1.symm hq
          · exact ⟨x, hx, e1, e2⟩
theorem run_mapDel (h : IM es n f) (hb : w.heap[b]? = some (.map es ck)) {k : Int} (hk : (Lit.int .i64 k).wf = true) (ty : TypeId) :
    ∃ es', (Builtin.delete_ #[93, 3] ty #[.map (some b), .int .i64 k]).run Try.prog w = .ok (.tuple #[]) (setBlock w b (.map es' ck)) ∧ IM es' n (fDel f k) := by
  have hkey := keyOf_i64 hk
  have K := int_keyed'
  rcases K.find w hkey es.toList h.keysOk with ⟨h1, h2⟩ | ⟨j, e0, h1, h2, h3⟩
  · refine ⟨es, ?_, ⟨h.size, h.ints, h.apart, ?_⟩⟩
    · simp [Builtin.delete_, run_underlying Try.underlying93, MapKept.run_getObj_map hb, K.check w _ hkey, h1, MapKept.run_setObj_map _ hb, Result.andThen, setBlock]
    · intro q d
      simp only [fDel]
      by_cases hq : q = k
      · subst hq
        rw [if_pos rfl]
        constructor
        · intro hd; cases hd
        · rintro ⟨x, hx, e1, -⟩
          exact absurd e1 (h2 x hx)
      · rw [if_neg hq]; exact h.fits q d
  · have hjl : j < es.toList.length := (List.getElem?_eq_some_iff.1 h2).1
    have hjs : j < es.size := by simpa using hjl
    have hsub : (es.eraseIdxIfInBounds j).toList = es.toList.eraseIdx j := by
      unfold Array.eraseIdxIfInBounds
      rw [dif_pos hjs]
      simp
    have hmem : ∀ x, x ∈ es.toList.eraseIdx j ↔ x ∈ es.toList ∧ x.key ≠ .int .i64 k := fun x => by
      rw [List.mem_eraseIdx_iff_getElem?]
      constructor
      · rintro ⟨i, hne, hi⟩
        exact ⟨List.mem_of_getElem? hi, fun e => hne (h.apart i j x e0 hi h2 (e.trans h3.symm))⟩
      · rintro ⟨hx, hne⟩
        obtain ⟨i, hi⟩ := List.getElem?_of_mem hx
        refine ⟨i, ?_, hi⟩
        rintro rfl
        rw [h2] at hi
        cases hi
        exact hne h3
    refine ⟨es.eraseIdxIfInBounds j, ?_, ⟨Nat.le_trans (MapFrom.size_erase es j) h.size, ?_, ?_, ?_⟩⟩
    · simp [Builtin.delete_, run_underlying Try.underlying93, MapKept.run_getObj_map hb, K.check w _ hkey, h1, MapKept.run_setObj_map _ hb, Result.andThen, setBlock]
    · intro x hx
      rw [hsub] at hx
      exact h.ints x ((hmem x).1 hx).1
    · intro i i' x y hx hy hxy
      rw [hsub, List.getElem?_eraseIdx] at hx hy
      split at hx <;> split at hy <;> have := h.apart _ _ x y hx hy hxy <;> omega
    · intro q d
      rw [hsub]
      simp only [fDel]
      by_cases hq : q = k
      · subst hq
        rw [if_pos rfl]
        constructor
        · intro hd; cases hd
        · rintro ⟨x, hx, e1, -⟩
          exact absurd e1 ((hmem x).1 hx).2
      · rw [if_neg hq, h.fits q d]
        constructor
        · rintro ⟨x, hx, e1, e2⟩
          exact ⟨x, (hmem x).2 ⟨hx, by rw [e1]; intro he; simp only [Value.int.injEq, true_and] at he; exact hq he⟩, e1, e2⟩
        · rintro ⟨x, hx, e1, e2⟩
          exact ⟨x, ((hmem x).1 hx).1, e1, e2⟩
end
section
variable {W w : World} {m : List (Nat × Obj)} {b : Nat} {o : Obj} {es : Array MapEntry} {ck : Nat}
theorem Own.setMap (h : Own W ((b, .map es ck) :: m) w) (es' : Array MapEntry) (ck' : Nat) : Own W ((b, .map es' ck') :: m) (setBlock w b (.map es' ck')) := by
  have hg := h.get (List.mem_cons_self)
  have hge := h.ge (List.mem_cons_self)
  have hlt := heap_lt hg
  have hother : ∀ k, k ≠ b → (setBlock w b (.map es' ck')).heap[k]? = w.heap[k]? := fun k hk => by
    simp only [setBlock]
    rw [Array.getElem?_setIfInBounds, if_neg (fun e => hk e.symm)]
  have hb := h.below
  refine ⟨⟨hb.os, hb.tape, hb.output, by simpa [setBlock] using hb.size, fun k hk => ?_⟩, fun p hm => ?_, h.nd⟩
  · rw [hother k (by omega)]; exact hb.block k hk
  · rcases List.mem_cons.1 hm with rfl | hm
    · exact ⟨hge, by simp [setBlock, hlt]⟩
    · exact ⟨(h.at_ p (List.mem_cons_of_mem _ hm)).1, (hother p.1 (Own.ne h (b' := p.1) (o' := p.2) hm)).trans (h.at_ p (List.mem_cons_of_mem _ hm)).2⟩
end
section
variable {W w : World} {M : List (Nat × Obj)} {es : Array MapEntry} {ck n b : Nat} {f : Int → Option Int}
variable {ops : Array Oper} {rest : List Oper} {o : Oper} {a : Act} {Q : Exit → Act → World → Prop}
/-- '(at_lookup; refine wpList_mapGet rfl _ _ rfl rfl rfl hIM hb hk ?_)' -/
theorem wpList_mapGet (hg : o.guard = none) (m x : Operand) (hop : o.op = Op.lookup 93 m x true) {k : Int} (hm : a.eval m = .map (some b)) (hx : a.eval x = .int .i64 k)
    (h : IM es n f) (hb : w.heap[b]? = some (.map es ck)) (hk : (Lit.int .i64 k).wf = true)
    (hK : wpList Try.prog ops Q rest (a.put o.dst (.tuple #[.int .i64 ((f k).getD 0), .bool (f k).isSome])) w) : wpList Try.prog ops Q (o :: rest) a w := by
  refine wpList_plain hg fun K' hK' => ?_
  unfold Oper.wp
  simp [execOp, hop, hm, hx, run_mapGet h hb hk, Result.andThen]
  exact hK' _ _ hK
/-- '(at_mapUpdate; refine wpList_mapPut rfl _ _ _ rfl rfl rfl rfl hIM hO hn hk ?_; intro es' ck' k1 k2)' -/
theorem wpList_mapPut (hg : o.guard = none) (m x v : Operand) (hop : o.op = Op.mapUpdate 93 m x v) {k c : Int} (hm : a.eval m = .map (some b)) (hx : a.eval x = .int .i64 k) (hv : a.eval v = .int .i64 c)
    (h : IM es n f) (hO : Own W ((b, .map es ck) :: M) w) (hn : n < maxLen) (hk : (Lit.int .i64 k).wf = true)
    (hK : ∀ es' ck' w', IM es' (n + 1) (fPut f k c) → Own W ((b, .map es' ck') :: M) w' → wpList Try.prog ops Q rest (a.put o.dst undef) w') : wpList Try.prog ops Q (o :: rest) a w := by
  refine wpList_plain hg fun K' hK' => ?_
  obtain ⟨es', ck', hrun, h1⟩ := run_mapPut h (hO.get List.mem_cons_self) hn hk c
  unfold Oper.wp
  simp [execOp, hop, hm, hx, hv, hrun, Result.andThen]
  exact hK' _ _ (hK es' ck' _ h1 (hO.setMap es' ck'))
/-- '(at_delete; refine wpList_mapDel rfl _ _ rfl rfl rfl hIM hO hk ?_; intro es' w' k1 k2)' -/
theorem wpList_mapDel (hg : o.guard = none) (m x : Operand) (hop : o.op = Op.call { callee := Callee.builtin Builtin.delete, args := #[m, x], argTypes := #[93, 3] }) {k : Int} (hm : a.eval m = .map (some b)) (hx : a.eval x = .int .i64 k)
    (h : IM es n f) (hO : Own W ((b, .map es ck) :: M) w) (hk : (Lit.int .i64 k).wf = true)
    (hK : ∀ es' w', IM es' n (fDel f k) → Own W ((b, .map es' ck) :: M) w' → wpList Try.prog ops Q rest (a.put o.dst (.tuple #[])) w') : wpList Try.prog ops Q (o :: rest) a w := by
  refine wpList_plain hg fun K' hK' => ?_
  obtain ⟨es', hrun, h1⟩ := run_mapDel h (hO.get List.mem_cons_self) hk o.type
  unfold Oper.wp
  simp [execOp, hop, resolve, invoke, builtin, hm, hx, hrun, Result.andThen]
  exact hK' _ _ (hK es' _ h1 (hO.setMap es' ck))
end
end Go.Proofs.Ytmfemophafncnaa

/-
  Contracts: slabs, one behind the other (reader.chain). No condition. (Printed by mkchain.py.)
-/
namespace Go.Proofs.Ytmfemophafncnaa.See
open Go.RowKit
open chartPlaces (Ok)
attribute [local go_sem ↓] Go.wp_at_zero Go.wp_at_succ
section
variable {W w : World} {M m : List (Nat × Obj)} {B o N k b ck n : Nat} {g : List Nat} {c : Ch} {d e : Int} {es : Array MapEntry} {f : Int → Option Int}
theorem run_mapAt (h : IM es n f) (hb : w.heap[b]? = some (.map es ck)) {k : Int} (hk : (Lit.int .i64 k).wf = true) :
    (Instr.lookup 93 (.map (some b)) (.int .i64 k) false).run Try.prog w = .ok (.int .i64 ((f k).getD 0)) w := by
  have hkey := keyOf_i64 hk
  have K := int_keyed'
  rcases K.find w hkey es.toList h.keysOk with ⟨h1, h2⟩ | ⟨j, e0, h1, h2, h3⟩
  · have hf := h.none_of h2
    simp [Instr.lookup, run_underlying Try.underlying93, MapKept.run_getObj_map hb, K.check w _ hkey, h1, Result.andThen, hf]
  · have hm := List.mem_of_getElem? h2
    obtain ⟨k', c, e1, e2, -⟩ := h.ints e0 hm
    have hf : f k = some c := (h.fits k c).2 ⟨e0, hm, h3, e2⟩
    simp [Instr.lookup, run_underlying Try.underlying93, MapKept.run_getObj_map hb, K.check w _ hkey, h1, Result.andThen, hf, e2]
theorem wpList_mapAt {ops : Array Oper} {rest : List Oper} {o : Oper} {a : Act} {Q : Exit → Act → World → Prop} (hg : o.guard = none) (m x : Operand) (hop : o.op = Op.lookup 93 m x false) {k : Int} (hm : a.eval m = .map (some b)) (hx : a.eval x = .int .i64 k)
    (h : IM es n f) (hb : w.heap[b]? = some (.map es ck)) (hk : (Lit.int .i64 k).wf = true)
    (hK : wpList Try.prog ops Q rest (a.put o.dst (.int .i64 ((f k).getD 0))) w) : wpList Try.prog ops Q (o :: rest) a w := by
  refine wpList_plain hg fun K' hK' => ?_
  unfold Oper.wp
  simp [execOp, hop, hm, hx, run_mapAt h hb hk, Result.andThen]
  exact hK' _ _ hK
/-- which slabs were seen -/
def seen (out : List Int) : Int → Option Int := fun s => if s ∈ out then some 1 else none
theorem seen_put (out : List Int) (s : Int) : fPut (seen out) s 1 = seen (out ++ [s]) := by
  funext j
  unfold fPut seen
  by_cases hj : j = s
  · subst hj; simp
  · by_cases ho : j ∈ out <;> simp [hj, ho]
theorem seen_nil : seen [] = fun _ => none := by
  funext j
  simp [seen]
theorem seen_yes {out : List Int} {s : Int} (h : s ∈ out) : (seen out s).getD 0 = 1 := by simp [seen, h]
theorem seen_no {out : List Int} {s : Int} (h : s ∉ out) : (seen out s).getD 0 = 0 := by simp [seen, h]
/-- what a word says of a slab -/
def OfPost (r : Option Int) (e : Ending) : Prop := match r with
  | some s => e = .returned (.tuple #[.int .i64 s, .bool true])
  | none => ∃ v : Int, e = .returned (.tuple #[.int .i64 v, .bool false])
def ofP (w : Nat) : Option Int := (partOf w).map (·.1)
set_option maxRecDepth 100000 in
theorem ofP_spec (x : Nat) (hx : x < 18446744073709551616) (w : World) : Calls Try.prog 56 #[.int .u64 x] w fun e w' => OfPost (ofP x) e ∧ w = w' := by
  have hp := fun w => partOf_spec x hx w
  unfold partV at hp
  unfold ofP
  clear hx
  cases hc : partOf x with
  | none =>
    rw [hc] at hp
    have HP := Lib.hid hp
    clear hp hc
    go_enter Try.func56, Try.ntmps56
    go_wp2_with (go_at_call 23; refine (HP.out _).mono ?_; rintro e w' ⟨rfl, rfl⟩)
    go_ret2
    exact ⟨⟨_, rfl⟩, rfl⟩
  | some q =>
    obtain ⟨s, n⟩ := q
    rw [hc] at hp
    have HP := Lib.hid hp
    clear hp hc
    go_enter Try.func56, Try.ntmps56
    go_wp2_with (go_at_call 23; refine (HP.out _).mono ?_; rintro e w' ⟨rfl, rfl⟩)
    go_ret2
    exact ⟨rfl, rfl⟩
theorem ofP_ge {w : Nat} {s : Int} (h : ofP w = some s) : -1 ≤ s ∧ s < 32 := by
  unfold ofP partOf at h
  split at h
  · simp at h; omega
  · split at h
    · simp at h; omega
    · cases h
theorem ofS_ge {w : Nat} {s : Int} (h : shelfOf w = some s) : -1 ≤ s ∧ s < 32 := by
  unfold shelfOf at h
  split at h
  · simp at h; omega
  · cases h
set_option maxRecDepth 100000 in
theorem ofS_spec (x : Nat) (hx : x < 18446744073709551616) (w : World) : Calls Try.prog 29 #[.int .u64 x] w fun e w' => OfPost (shelfOf x) e ∧ w = w' := by
  unfold shelfOf
  by_cases hc : x ≤ 32
  · rw [if_pos hc]
    have hci : decide ((x : Int) ≤ 32) = true := decide_eq_true (by omega)
    clear hx
    go_enter Try.func29, Try.ntmps29
    go_wp2_with fail
    go_ret2
    exact ⟨rfl, rfl⟩
  · rw [if_neg hc]
    have hci : decide ((x : Int) ≤ 32) = false := decide_eq_false (by omega)
    clear hx
    go_enter Try.func29, Try.ntmps29
    go_wp2_with fail
    go_ret2
    exact ⟨⟨_, rfl⟩, rfl⟩
/-- what chain answers -/
def ChPost (W : World) (m : List (Nat × Obj)) (r : Option (List Int)) (e : Ending) (w' : World) : Prop := match r with
  | some l => ∃ v bs, e = .returned (.tuple #[v, .bool true]) ∧ Hid (IntsOwn true v l bs) ∧ Own W (bs ++ m) w'
  | none => e = .returned (.tuple #[.slice none 0 0, .bool false]) ∧ Own W m w'
set_option maxRecDepth 100000 in
set_option maxHeartbeats 4000000 in
theorem rchain_p (h : Own W m w) (hc : COk c d e) (hw : WOk W m B o N k g c) (x0 : Nat) (hx0 : x0 < 18446744073709551616) :
    Calls Try.prog 28 #[rV B o N k c d e, .int .u64 x0, .func (.func 56) #[] #[]] w (ChPost W m (chain ofP (nextAt c g) c.S (c.S + 1) [] x0)) := by
  obtain ⟨n1, n2, n3, n4, n5, n6⟩ := hc.nums
  have h1 := (h.new (.cells #[.slice (some ⟨B, o, none⟩) N k, .int .i64 c.C, .int .i64 c.S, .int .i64 c.O, .int .i64 d, .int .i64 e, .int .u64 c.key] 66)).new (.map #[] 0)
  obtain ⟨b, hb⟩ : ∃ b, w.heap.size = b := ⟨_, rfl⟩
  simp only [World.size_alloc] at h1
  rw [hb] at h1
  have h1 : Own W ((b + 1, .map #[] 0) :: (rBlk b B o N k c d e :: m)) _ := h1
  obtain ⟨R, hR⟩ : ∃ R, chain ofP (nextAt c g) c.S (c.S + 1) [] x0 = R := ⟨_, rfl⟩
  have HR := Lib.hid hR
  have HC := Lib.hid hc
  have HW := Lib.hid hw
  have HX0 := Lib.hid hx0
  have him : IM #[] 0 (seen []) := by rw [seen_nil]; exact IM.nil
  have HIM := Lib.hid him
  rw [hR]
  clear hR hc hx0 him hw
  have hmm := fun w : World => run_makeMap (P := Try.prog) 93 w
  unfold rV
  go_enter Try.func28, Try.ntmps28
  go_wp2_with fail
  clear hmm
  obtain ⟨wa, hwa⟩ : ∃ wa, (w.alloc (.cells #[.slice (some ⟨B, o, none⟩) N k, .int .i64 c.C, .int .i64 c.S, .int .i64 c.O, .int .i64 d, .int .i64 e, .int .u64 c.key] 66)).alloc (.map #[] 0) = wa := ⟨_, rfl⟩
  rw [hwa] at h1 ⊢
  have H1 := Lib.hid h1
  clear h1 hwa h hb
  go_loopw [1, 6] (fun xv ov wr => ∃ (x : Nat) (out : List Int) (bs : List (Nat × Obj)) (es : Array MapEntry) (ck : Nat), xv = .int .u64 x ∧ Hid (x < 18446744073709551616) ∧ Hid (out.Nodup ∧ ∀ y ∈ out, 0 ≤ y ∧ y < c.S) ∧ Hid (chain ofP (nextAt c g) c.S (c.S + 1 - out.length) out x = R) ∧ Hid (IntsOwn true ov out bs) ∧ Hid (IM es out.length (seen out)) ∧ Own W ((b + 1, .map es ck) :: (bs ++ (rBlk b B o N k c d e :: m))) wr) (fun _ ov _ => 33 - slLen ov)
  case atStart => exact ⟨x0, [], [], #[], 0, rfl, HX0, ⟨List.nodup_nil, fun x hx => (by simp at hx)⟩, HR, SlO.nil _ _ _, HIM, H1.out⟩
  case round =>
    clear H1 HR HX0 HIM
    obtain ⟨x, out, bs, es, ck, rfl, HX, HND, HWK, HO, HIM, hr⟩ := hrel
    obtain ⟨A8, c8, hv, -, -⟩ := HO.out.slice
    subst hv
    have hfew := few HND.out.1 HND.out.2
    obtain ⟨z, hz⟩ : ∃ z, out.length = z := ⟨_, rfl⟩
    have HZ := Lib.hid hz
    rw [hz] at hfew
    have hO2 : IntsOwn true (.slice A8 z c8) out bs := by have := HO.out; rw [hz] at this; exact this
    have HO2 := Lib.hid hO2
    have hof := fun w => ofP_spec x HX.out w
    have hk := HWK.out
    rw [hz, show c.S + 1 - z = (c.S - z) + 1 by omega] at hk
    unfold chain at hk
    rw [hz]
    have HRW := Lib.hid hr
    have hrb := (hr.skip.perm List.perm_middle)
    obtain ⟨y0, y1, y2, y3, y4, y5, y6⟩ := box7 hrb
    clear hO2 HWK hz
    cases hs : ofP x with
    | none =>
      rw [hs] at hof hk
      have HOF := Lib.hid hof
      have HK2 := Lib.hid hk
      clear hof hk hs hrb
      go_wp2_with (go_at_call 56; refine (HOF.out _).mono ?_; rintro e w5 ⟨⟨v5, rfl⟩, rfl⟩)
      go_ret2
      rw [← HK2.out]
      exact ⟨rfl, hr.skip.dropL.skip⟩
    | some s =>
      rw [hs] at hof hk
      simp only at hk
      have HOF := Lib.hid hof
      obtain ⟨s0, s1⟩ := ofP_ge hs
      clear hof hs
      by_cases hS : (c.S : Int) ≤ s
      · rw [if_pos (.inl hS)] at hk
        have HK2 := Lib.hid hk
        clear hk hrb
        go_wp2_with (go_at_call 56; refine (HOF.out _).mono ?_; rintro e w5 ⟨rfl, rfl⟩)
        go_ret2
        rw [← HK2.out]
        exact ⟨rfl, hr.skip.dropL.skip⟩
      · have hSn : ¬ (c.S : Int) ≤ s := hS
        have hwf : (Lit.int .i64 s).wf = true := by simp [Lit.wf, IntKind.min, IntKind.max, IntKind.signed, IntKind.bits]; omega
        have HWF := Lib.hid hwf
        have hgm := hr.get List.mem_cons_self
        clear hwf
        by_cases hin : s ∈ out
        · rw [if_pos (.inr hin)] at hk
          have HK2 := Lib.hid hk
          have hg1 := seen_yes hin
          clear hk hrb
          go_wp2_with (first | (go_at_call 56; refine (HOF.out _).mono ?_; rintro e w5 ⟨rfl, rfl⟩) | (at_lookup; refine wpList_mapAt rfl _ _ rfl rfl rfl HIM.out hgm HWF.out ?_; rw [hg1]))
          go_ret2
          rw [← HK2.out]
          exact ⟨rfl, hr.skip.dropL.skip⟩
        · rw [if_neg (by intro hh; exact hh.elim hS hin)] at hk
          have hg1 := seen_no hin
          by_cases hm1 : s = -1
          · rw [if_pos hm1] at hk
            subst hm1
            have HK2 := Lib.hid hk
            clear hk hrb
            go_wp2_with (first | (go_at_call 56; refine (HOF.out _).mono ?_; rintro e w5 ⟨rfl, rfl⟩) | (at_lookup; refine wpList_mapAt rfl _ _ rfl rfl rfl HIM.out hgm HWF.out ?_; rw [hg1]))
            go_ret2
            rw [← HK2.out]
            exact ⟨_, bs, rfl, HO2, hr.skip.drop1⟩
          · rw [if_neg hm1] at hk
            have hsb : (s == -1) = false := beq_eq_false_iff_ne.2 hm1
            obtain ⟨j, rfl⟩ : ∃ j : Nat, s = j := ⟨s.toNat, by omega⟩
            have hjS : j < c.S := by omega
            have hji : 0 ≤ (j : Int) ∧ (j : Int) < (c.S : Int) := by omega
            have HJ := Lib.hid hji
            have hN := HW.out.n
            unfold Ch.words at hN
            have hpN : 4 * c.C + 4 + 4 * j + 2 < N := by omega
            obtain ⟨p, hp⟩ : ∃ p : Nat, 4 * c.C + 4 + 4 * j + 2 = p := ⟨_, rfl⟩
            have hpi : 4 * (c.C : Int) + 4 + 4 * (j : Int) + 2 = (p : Int) := by omega
            have HPI := Lib.hid hpi
            rw [hp] at hpN
            have hp0 : (0 : Int) ≤ (p : Int) := by omega
            have hp1 : (p : Int) < (N : Int) := by omega
            obtain ⟨x', hx'⟩ : ∃ x', g[p]? = some x' := ⟨_, List.getElem?_eq_getElem (by rw [HW.out.len]; exact hpN)⟩
            have hna : nextAt c g (j : Int) = x' := by
              unfold nextAt at_
              rw [Int.toNat_natCast, hp, List.getD_eq_getElem?_getD, hx']
              rfl
            rw [hna] at hk
            have HX' : Hid (x' < 18446744073709551616) := HW.out.w64 x' (List.mem_of_getElem? hx')
            have HXP := Lib.hid hx'
            have hlt := few_lt HND.out.1 HND.out.2 hji.1 hji.2 hin
            rw [HZ.out] at hlt
            have HND2 : Hid ((out ++ [(j : Int)]).Nodup ∧ ∀ y ∈ out ++ [(j : Int)], 0 ≤ y ∧ y < c.S) := by
              refine ⟨List.nodup_append.2 ⟨HND.out.1, by simp, fun a ha b hb he => ?_⟩, fun y hy => ?_⟩
              · simp at hb
                subst hb
                subst he
                exact hin ha
              · rcases List.mem_append.1 hy with hy | hy
                · exact HND.out.2 y hy
                · simp at hy
                  subst hy
                  exact hji
            have HK2 : Hid (chain ofP (nextAt c g) c.S (c.S + 1 - (out ++ [(j : Int)]).length) (out ++ [(j : Int)]) x' = R) := by
              show _ = _
              rw [List.length_append, HZ.out, List.length_singleton, show c.S + 1 - (z + 1) = c.S - z by omega]
              exact hk
            have HLEN : Hid (out.length + [(j : Int)].length ≤ 60000) := by
              show _ ≤ _
              rw [HZ.out]
              simp
              omega
            have HLM : Hid (out.length < maxLen) := by
              show _ < _
              rw [HZ.out]
              unfold maxLen
              omega
            clear hk hN hp hpi hx' hna hrb
            go_wp2_with (first | (go_at_call 56; refine (HOF.out _).mono ?_; rintro e w5 ⟨rfl, rfl⟩) | (at_lookup; refine wpList_mapAt rfl _ _ rfl rfl rfl HIM.out hgm HWF.out ?_; rw [hg1]) |
              (at_mapUpdate; refine wpList_mapPut rfl _ _ _ rfl rfl rfl rfl HIM.out HRW.out HLM.out HWF.out ?_; intro es' ck' w' k1 k2; rw [seen_put] at k1; have K1 := Lib.hid k1; have H2 := Lib.hid ((k2.perm List.perm_middle.symm).alloc (.cells #[.int .i64 (j : Int)] 3)); have HSRC := Lib.hid (src_one w' (j : Int)); clear k1 k2 y0 y1 y2 y3 y4 y5 y6 hgm) |
              (at_builtin; refine wpList_app_ints rfl _ _ rfl rfl rfl HO2.out H2.out HSRC.out HLEN.out ?_; intro v' w' bs' q1 q2 q3; have Q1 := Lib.hid q1; have Q2 := Lib.hid q2; obtain ⟨y0, y1, y2, y3, y4, y5, y6⟩ := box7 q2.dropL.skip; have cx := HW.out.rd _ q2.dropL.skip.skip p x' HXP.out; clear q1 q2 q3))
            go_region_held3 (fun w' => w'.cell? ⟨b, 0, none⟩ = some (.slice (some ⟨B, o, none⟩) N k) ∧ w'.cell? ⟨b, 1, none⟩ = some (.int .i64 c.C) ∧ w'.cell? ⟨b, 2, none⟩ = some (.int .i64 c.S) ∧ w'.cell? ⟨b, 3, none⟩ = some (.int .i64 c.O) ∧ w'.cell? ⟨b, 4, none⟩ = some (.int .i64 d) ∧ w'.cell? ⟨b, 5, none⟩ = some (.int .i64 e) ∧ w'.cell? ⟨b, 6, none⟩ = some (.int .u64 c.key) ∧ w'.cell? ⟨B, o + p, none⟩ = some (.int .u64 (x' : Int))) (first | (refine ⟨?_, ?_, ?_, ?_, ?_, ?_, ?_, ?_⟩ <;> assumption) | go_keep)
              (first | (go_at_call 18; refine (Apart.next_ok HC.out.ok HJ.out Q2.out.drew).mono ?_; rintro r w6 ⟨rfl, h6⟩; rw [HPI.out]; obtain ⟨y0, y1, y2, y3, y4, y5, y6⟩ := box7 h6.dropL.skip; have cx := HW.out.rd _ h6.dropL.skip.skip p x' HXP.out))
            go_wp2_with fail
            obtain ⟨A9, c9, hv9, -, -⟩ := Q1.out.slice
            rw [List.length_append, HZ.out, List.length_singleton] at hv9
            refine ⟨⟨x', _, bs', es', ck', rfl, HX', HND2, HK2, Q1, ?_, ?_⟩, ?_⟩
            · show IM es' (out ++ [(j : Int)]).length _
              rw [List.length_append, List.length_singleton]
              exact K1.out
            · exact h6.perm List.perm_middle
            · rw [hv9]
              simp [slLen]
              omega
set_option maxRecDepth 100000 in
set_option maxHeartbeats 4000000 in
theorem rchain_s (h : Own W m w) (hc : COk c d e) (hw : WOk W m B o N k g c) (x0 : Nat) (hx0 : x0 < 18446744073709551616) :
    Calls Try.prog 28 #[rV B o N k c d e, .int .u64 x0, .func (.func 29) #[] #[]] w (ChPost W m (chain shelfOf (nextAt c g) c.S (c.S + 1) [] x0)) := by
  obtain ⟨n1, n2, n3, n4, n5, n6⟩ := hc.nums
  have h1 := (h.new (.cells #[.slice (some ⟨B, o, none⟩) N k, .int .i64 c.C, .int .i64 c.S, .int .i64 c.O, .int .i64 d, .int .i64 e, .int .u64 c.key] 66)).new (.map #[] 0)
  obtain ⟨b, hb⟩ : ∃ b, w.heap.size = b := ⟨_, rfl⟩
  simp only [World.size_alloc] at h1
  rw [hb] at h1
  have h1 : Own W ((b + 1, .map #[] 0) :: (rBlk b B o N k c d e :: m)) _ := h1
  obtain ⟨R, hR⟩ : ∃ R, chain shelfOf (nextAt c g) c.S (c.S + 1) [] x0 = R := ⟨_, rfl⟩
  have HR := Lib.hid hR
  have HC := Lib.hid hc
  have HW := Lib.hid hw
  have HX0 := Lib.hid hx0
  have him : IM #[] 0 (seen []) := by rw [seen_nil]; exact IM.nil
  have HIM := Lib.hid him
  rw [hR]
  clear hR hc hx0 him hw
  have hmm := fun w : World => run_makeMap (P := Try.prog) 93 w
  unfold rV
  go_enter Try.func28, Try.ntmps28
  go_wp2_with fail
  clear hmm
  obtain ⟨wa, hwa⟩ : ∃ wa, (w.alloc (.cells #[.slice (some ⟨B, o, none⟩) N k, .int .i64 c.C, .int .i64 c.S, .int .i64 c.O, .int .i64 d, .int .i64 e, .int .u64 c.key] 66)).alloc (.map #[] 0) = wa := ⟨_, rfl⟩
  rw [hwa] at h1 ⊢
  have H1 := Lib.hid h1
  clear h1 hwa h hb
  go_loopw [1, 6] (fun xv ov wr => ∃ (x : Nat) (out : List Int) (bs : List (Nat × Obj)) (es : Array MapEntry) (ck : Nat), xv = .int .u64 x ∧ Hid (x < 18446744073709551616) ∧ Hid (out.Nodup ∧ ∀ y ∈ out, 0 ≤ y ∧ y < c.S) ∧ Hid (chain shelfOf (nextAt c g) c.S (c.S + 1 - out.length) out x = R) ∧ Hid (IntsOwn true ov out bs) ∧ Hid (IM es out.length (seen out)) ∧ Own W ((b + 1, .map es ck) :: (bs ++ (rBlk b B o N k c d e :: m))) wr) (fun _ ov _ => 33 - slLen ov)
  case atStart => exact ⟨x0, [], [], #[], 0, rfl, HX0, ⟨List.nodup_nil, fun x hx => (by simp at hx)⟩, HR, SlO.nil _ _ _, HIM, H1.out⟩
  case round =>
    clear H1 HR HX0 HIM
    obtain ⟨x, out, bs, es, ck, rfl, HX, HND, HWK, HO, HIM, hr⟩ := hrel
    obtain ⟨A8, c8, hv, -, -⟩ := HO.out.slice
    subst hv
    have hfew := few HND.out.1 HND.out.2
    obtain ⟨z, hz⟩ : ∃ z, out.length = z := ⟨_, rfl⟩
    have HZ := Lib.hid hz
    rw [hz] at hfew
    have hO2 : IntsOwn true (.slice A8 z c8) out bs := by have := HO.out; rw [hz] at this; exact this
    have HO2 := Lib.hid hO2
    have hof := fun w => ofS_spec x HX.out w
    have hk := HWK.out
    rw [hz, show c.S + 1 - z = (c.S - z) + 1 by omega] at hk
    unfold chain at hk
    rw [hz]
    have HRW := Lib.hid hr
    have hrb := (hr.skip.perm List.perm_middle)
    obtain ⟨y0, y1, y2, y3, y4, y5, y6⟩ := box7 hrb
    clear hO2 HWK hz
    cases hs : shelfOf x with
    | none =>
      rw [hs] at hof hk
      have HOF := Lib.hid hof
      have HK2 := Lib.hid hk
      clear hof hk hs hrb
      go_wp2_with (go_at_call 29; refine (HOF.out _).mono ?_; rintro e w5 ⟨⟨v5, rfl⟩, rfl⟩)
      go_ret2
      rw [← HK2.out]
      exact ⟨rfl, hr.skip.dropL.skip⟩
    | some s =>
      rw [hs] at hof hk
      simp only at hk
      have HOF := Lib.hid hof
      obtain ⟨s0, s1⟩ := ofS_ge hs
      clear hof hs
      by_cases hS : (c.S : Int) ≤ s
      · rw [if_pos (.inl hS)] at hk
        have HK2 := Lib.hid hk
        clear hk hrb
        go_wp2_with (go_at_call 29; refine (HOF.out _).mono ?_; rintro e w5 ⟨rfl, rfl⟩)
        go_ret2
        rw [← HK2.out]
        exact ⟨rfl, hr.skip.dropL.skip⟩
      · have hSn : ¬ (c.S : Int) ≤ s := hS
        have hwf : (Lit.int .i64 s).wf = true := by simp [Lit.wf, IntKind.min, IntKind.max, IntKind.signed, IntKind.bits]; omega
        have HWF := Lib.hid hwf
        have hgm := hr.get List.mem_cons_self
        clear hwf
        by_cases hin : s ∈ out
        · rw [if_pos (.inr hin)] at hk
          have HK2 := Lib.hid hk
          have hg1 := seen_yes hin
          clear hk hrb
          go_wp2_with (first | (go_at_call 29; refine (HOF.out _).mono ?_; rintro e w5 ⟨rfl, rfl⟩) | (at_lookup; refine wpList_mapAt rfl _ _ rfl rfl rfl HIM.out hgm HWF.out ?_; rw [hg1]))
          go_ret2
          rw [← HK2.out]
          exact ⟨rfl, hr.skip.dropL.skip⟩
        · rw [if_neg (by intro hh; exact hh.elim hS hin)] at hk
          have hg1 := seen_no hin
          by_cases hm1 : s = -1
          · rw [if_pos hm1] at hk
            subst hm1
            have HK2 := Lib.hid hk
            clear hk hrb
            go_wp2_with (first | (go_at_call 29; refine (HOF.out _).mono ?_; rintro e w5 ⟨rfl, rfl⟩) | (at_lookup; refine wpList_mapAt rfl _ _ rfl rfl rfl HIM.out hgm HWF.out ?_; rw [hg1]))
            go_ret2
            rw [← HK2.out]
            exact ⟨_, bs, rfl, HO2, hr.skip.drop1⟩
          · rw [if_neg hm1] at hk
            have hsb : (s == -1) = false := beq_eq_false_iff_ne.2 hm1
            obtain ⟨j, rfl⟩ : ∃ j : Nat, s = j := ⟨s.toNat, by omega⟩
            have hjS : j < c.S := by omega
            have hji : 0 ≤ (j : Int) ∧ (j : Int) < (c.S : Int) := by omega
            have HJ := Lib.hid hji
            have hN := HW.out.n
            unfold Ch.words at hN
            have hpN : 4 * c.C + 4 + 4 * j + 2 < N := by omega
            obtain ⟨p, hp⟩ : ∃ p : Nat, 4 * c.C + 4 + 4 * j + 2 = p := ⟨_, rfl⟩
            have hpi : 4 * (c.C : Int) + 4 + 4 * (j : Int) + 2 = (p : Int) := by omega
            have HPI := Lib.hid hpi
            rw [hp] at hpN
            have hp0 : (0 : Int) ≤ (p : Int) := by omega
            have hp1 : (p : Int) < (N : Int) := by omega
            obtain ⟨x', hx'⟩ : ∃ x', g[p]? = some x' := ⟨_, List.getElem?_eq_getElem (by rw [HW.out.len]; exact hpN)⟩
            have hna : nextAt c g (j : Int) = x' := by
              unfold nextAt at_
              rw [Int.toNat_natCast, hp, List.getD_eq_getElem?_getD, hx']
              rfl
            rw [hna] at hk
            have HX' : Hid (x' < 18446744073709551616) := HW.out.w64 x' (List.mem_of_getElem? hx')
            have HXP := Lib.hid hx'
            have hlt := few_lt HND.out.1 HND.out.2 hji.1 hji.2 hin
            rw [HZ.out] at hlt
            have HND2 : Hid ((out ++ [(j : Int)]).Nodup ∧ ∀ y ∈ out ++ [(j : Int)], 0 ≤ y ∧ y < c.S) := by
              refine ⟨List.nodup_append.2 ⟨HND.out.1, by simp, fun a ha b hb he => ?_⟩, fun y hy => ?_⟩
              · simp at hb
                subst hb
                subst he
                exact hin ha
              · rcases List.mem_append.1 hy with hy | hy
                · exact HND.out.2 y hy
                · simp at hy
                  subst hy
                  exact hji
            have HK2 : Hid (chain shelfOf (nextAt c g) c.S (c.S + 1 - (out ++ [(j : Int)]).length) (out ++ [(j : Int)]) x' = R) := by
              show _ = _
              rw [List.length_append, HZ.out, List.length_singleton, show c.S + 1 - (z + 1) = c.S - z by omega]
              exact hk
            have HLEN : Hid (out.length + [(j : Int)].length ≤ 60000) := by
              show _ ≤ _
              rw [HZ.out]
              simp
              omega
            have HLM : Hid (out.length < maxLen) := by
              show _ < _
              rw [HZ.out]
              unfold maxLen
              omega
            clear hk hN hp hpi hx' hna hrb
            go_wp2_with (first | (go_at_call 29; refine (HOF.out _).mono ?_; rintro e w5 ⟨rfl, rfl⟩) | (at_lookup; refine wpList_mapAt rfl _ _ rfl rfl rfl HIM.out hgm HWF.out ?_; rw [hg1]) |
              (at_mapUpdate; refine wpList_mapPut rfl _ _ _ rfl rfl rfl rfl HIM.out HRW.out HLM.out HWF.out ?_; intro es' ck' w' k1 k2; rw [seen_put] at k1; have K1 := Lib.hid k1; have H2 := Lib.hid ((k2.perm List.perm_middle.symm).alloc (.cells #[.int .i64 (j : Int)] 3)); have HSRC := Lib.hid (src_one w' (j : Int)); clear k1 k2 y0 y1 y2 y3 y4 y5 y6 hgm) |
              (at_builtin; refine wpList_app_ints rfl _ _ rfl rfl rfl HO2.out H2.out HSRC.out HLEN.out ?_; intro v' w' bs' q1 q2 q3; have Q1 := Lib.hid q1; have Q2 := Lib.hid q2; obtain ⟨y0, y1, y2, y3, y4, y5, y6⟩ := box7 q2.dropL.skip; have cx := HW.out.rd _ q2.dropL.skip.skip p x' HXP.out; clear q1 q2 q3))
            go_region_held3 (fun w' => w'.cell? ⟨b, 0, none⟩ = some (.slice (some ⟨B, o, none⟩) N k) ∧ w'.cell? ⟨b, 1, none⟩ = some (.int .i64 c.C) ∧ w'.cell? ⟨b, 2, none⟩ = some (.int .i64 c.S) ∧ w'.cell? ⟨b, 3, none⟩ = some (.int .i64 c.O) ∧ w'.cell? ⟨b, 4, none⟩ = some (.int .i64 d) ∧ w'.cell? ⟨b, 5, none⟩ = some (.int .i64 e) ∧ w'.cell? ⟨b, 6, none⟩ = some (.int .u64 c.key) ∧ w'.cell? ⟨B, o + p, none⟩ = some (.int .u64 (x' : Int))) (first | (refine ⟨?_, ?_, ?_, ?_, ?_, ?_, ?_, ?_⟩ <;> assumption) | go_keep)
              (first | (go_at_call 18; refine (Apart.next_ok HC.out.ok HJ.out Q2.out.drew).mono ?_; rintro r w6 ⟨rfl, h6⟩; rw [HPI.out]; obtain ⟨y0, y1, y2, y3, y4, y5, y6⟩ := box7 h6.dropL.skip; have cx := HW.out.rd _ h6.dropL.skip.skip p x' HXP.out))
            go_wp2_with fail
            obtain ⟨A9, c9, hv9, -, -⟩ := Q1.out.slice
            rw [List.length_append, HZ.out, List.length_singleton] at hv9
            refine ⟨⟨x', _, bs', es', ck', rfl, HX', HND2, HK2, Q1, ?_, ?_⟩, ?_⟩
            · show IM es' (out ++ [(j : Int)]).length _
              rw [List.length_append, List.length_singleton]
              exact K1.out
            · exact h6.perm List.perm_middle
            · rw [hv9]
              simp [slLen]
              omega
end
end Go.Proofs.Ytmfemophafncnaa.See

/-
  Contract: a processor's slot (reader.slot). No condition.
-/
namespace Go.Proofs.Ytmfemophafncnaa.See
open Go.RowKit
open chartPlaces (Ok)
attribute [local go_sem ↓] Go.wp_at_zero Go.wp_at_succ
section
variable {W w : World} {M m : List (Nat × Obj)} {B o N k b : Nat} {g : List Nat} {c : Ch} {d e : Int}
/-- what slot answers -/
def SlotPost (W : World) (m : List (Nat × Obj)) (r : Option SlotP) (e : Ending) (w' : World) : Prop := match r with
  | some x => ∃ lv lb pv pb, e = .returned (.tuple #[.agg #[.int .i64 x.slab, lv, .int .u64 x.turn, pv], .bool true]) ∧ Hid (IntsOwn true lv x.list lb) ∧ Hid (IntsOwn true pv x.parts pb) ∧ Own W (lb ++ (pb ++ m)) w'
  | none => e = .returned (.tuple #[.agg #[.int .i64 0, .slice none 0 0, .int .u64 0, .slice none 0 0], .bool false]) ∧ Own W m w'
/-- a slot's block -/
def sBlk (b : Nat) (s : Int) (lv : Value) (t : Int) (pv : Value) : Nat × Obj := (b, .cells #[.int .i64 s, lv, .int .u64 t, pv] 68)
theorem box4 {s t : Int} {lv pv : Value} (h : Own W (sBlk b s lv t pv :: m) w) : (w.cell? ⟨b, 0, none⟩ = some (.int .i64 s) ∧ w.cell? ⟨b, 1, none⟩ = some lv ∧ w.cell? ⟨b, 2, none⟩ = some (.int .u64 t) ∧ w.cell? ⟨b, 3, none⟩ = some pv) ∧ (w.frozen? ⟨b, 0, none⟩ = false ∧ w.frozen? ⟨b, 1, none⟩ = false ∧ w.frozen? ⟨b, 2, none⟩ = false ∧ w.frozen? ⟨b, 3, none⟩ = false) :=
  ⟨⟨h.cell List.mem_cons_self 0, h.cell List.mem_cons_self 1, h.cell List.mem_cons_self 2, h.cell List.mem_cons_self 3⟩, ⟨h.frozen List.mem_cons_self 0, h.frozen List.mem_cons_self 1, h.frozen List.mem_cons_self 2, h.frozen List.mem_cons_self 3⟩⟩
theorem slot_perm {α : Type} (b6 lb : List α) (x y : α) (m : List α) : (b6 ++ (lb ++ (x :: y :: m))).Perm (x :: (y :: (b6 ++ (lb ++ m)))) := by
  have h1 : (b6 ++ (lb ++ (x :: y :: m))).Perm (x :: (b6 ++ (lb ++ (y :: m)))) := by
    rw [← List.append_assoc, ← List.append_assoc]
    exact List.perm_middle
  refine h1.trans (List.Perm.cons x ?_)
  rw [← List.append_assoc, ← List.append_assoc]
  exact List.perm_middle
theorem sset {b : Nat} {s t s' t' : Int} {lv pv lv' pv' : Value} (h : Own W (sBlk b s lv t pv :: m) w) : Own W (sBlk b s' lv' t' pv' :: m) ((((w.setCell ⟨b, 0, none⟩ (.int .i64 s')).setCell ⟨b, 1, none⟩ lv').setCell ⟨b, 2, none⟩ (.int .u64 t')).setCell ⟨b, 3, none⟩ pv') := by
  have h1 := (((h.set 0 (.int .i64 s')).set 1 lv').set 2 (.int .u64 t')).set 3 pv'
  exact h1
theorem sset1 {b : Nat} {s t : Int} {lv pv lv' : Value} (h : Own W (sBlk b s lv t pv :: m) w) : Own W (sBlk b s lv' t pv :: m) (w.setCell ⟨b, 1, none⟩ lv') := h.set 1 lv'
theorem sset3 {b : Nat} {s t : Int} {lv pv pv' : Value} (h : Own W (sBlk b s lv t pv :: m) w) : Own W (sBlk b s lv t pv' :: m) (w.setCell ⟨b, 3, none⟩ pv') := h.set 3 pv'
set_option maxRecDepth 100000 in
set_option maxHeartbeats 4000000 in
theorem rslot_spec (h : Own W m w) (hc : COk c d e) (hw : WOk W m B o N k g c) (i : Nat) (hi : i < c.C) :
    Calls Try.prog 27 #[rV B o N k c d e, .int .i64 i] w (SlotPost W m (slotP c g i)) := by
  obtain ⟨n1, n2, n3, n4, n5, n6⟩ := hc.nums
  have h1 := (h.new (.cells #[.slice (some ⟨B, o, none⟩) N k, .int .i64 c.C, .int .i64 c.S, .int .i64 c.O, .int .i64 d, .int .i64 e, .int .u64 c.key] 66)).new (.cells #[.int .i64 0, .slice none 0 0, .int .u64 0, .slice none 0 0] 68)
  obtain ⟨b, hb⟩ : ∃ b, w.heap.size = b := ⟨_, rfl⟩
  simp only [World.size_alloc] at h1
  rw [hb] at h1
  have h1 : Own W (sBlk (b + 1) 0 (.slice none 0 0) 0 (.slice none 0 0) :: (rBlk b B o N k c d e :: m)) _ := h1
  obtain ⟨y0, y1, y2, y3, y4, y5, y6⟩ := box7 h1.skip
  have hN := hw.n
  unfold Ch.words at hN
  have hii : 0 ≤ (i : Int) ∧ (i : Int) < (c.C : Int) := by omega
  obtain ⟨p, hp⟩ : ∃ p : Nat, 4 * i = p := ⟨_, rfl⟩
  have hpi : 4 * (i : Int) = (p : Int) := by omega
  have HPI := Lib.hid hpi
  have hpN : p + 2 < N := by omega
  have hpb : p ≤ 32 := by omega
  have hp0 : (0 : Int) ≤ (p : Int) := by omega
  have hp1 : (p : Int) < (N : Int) := by omega
  have hp2 : (p : Int) + 1 < (N : Int) := by omega
  have hp3 : (p : Int) + 2 < (N : Int) := by omega
  obtain ⟨x0, hx0⟩ : ∃ x, g[p]? = some x := ⟨_, List.getElem?_eq_getElem (by rw [hw.len]; omega)⟩
  obtain ⟨x1, hx1⟩ : ∃ x, g[p + 1]? = some x := ⟨_, List.getElem?_eq_getElem (by rw [hw.len]; omega)⟩
  obtain ⟨p2, hpp2⟩ : ∃ p2 : Nat, p + 2 = p2 := ⟨_, rfl⟩
  have hp6 : (0 : Int) ≤ (p2 : Int) := by omega
  have hp7 : (p2 : Int) < (N : Int) := by omega
  have hw2 : IntKind.i64.wrap ((p : Int) + 2) = (p2 : Int) := by rw [IntWalk.i64_in] <;> omega
  obtain ⟨x2, hx2⟩ : ∃ x, g[p2]? = some x := ⟨_, List.getElem?_eq_getElem (by rw [hw.len]; omega)⟩
  have a0 : at_ g (4 * i) = x0 := by unfold at_; rw [hp, List.getD_eq_getElem?_getD, hx0]; rfl
  have a1 : at_ g (4 * i + 1) = x1 := by unfold at_; rw [hp, List.getD_eq_getElem?_getD, hx1]; rfl
  have a2 : at_ g (4 * i + 2) = x2 := by unfold at_; rw [hp, hpp2, List.getD_eq_getElem?_getD, hx2]; rfl
  have hBlt : B < w.heap.size := World.block_lt_of_cell? w _ (hw.rd w h p x0 hx0)
  rw [hb] at hBlt
  have hBn1 : B ≠ b + 1 := by omega
  have hBn2 : b + 1 ≠ B := by omega
  have hbn1 : b ≠ b + 1 := by omega
  have hbn2 : b + 1 ≠ b := by omega
  have hp4 : (0 : Int) ≤ (p : Int) + 2 := by omega
  have hp5 : (0 : Int) ≤ (p : Int) + 1 := by omega
  have hho := fun w => headOf_spec x0 (hw.w64 x0 (List.mem_of_getElem? hx0)) w
  have HX2 : Hid (x2 < 18446744073709551616) := hw.w64 x2 (List.mem_of_getElem? hx2)
  have HG : Hid (∀ ws, Own W m ws → ws.cell? ⟨B, o + p, none⟩ = some (.int .u64 (x0 : Int)) ∧ ws.cell? ⟨B, o + (p + 1), none⟩ = some (.int .u64 (x1 : Int)) ∧ ws.cell? ⟨B, o + p2, none⟩ = some (.int .u64 (x2 : Int))) := fun ws hws => ⟨hw.rd ws hws p x0 hx0, hw.rd ws hws (p + 1) x1 hx1, hw.rd ws hws p2 x2 hx2⟩
  unfold slotP
  rw [a0, a1, a2]
  unfold headV at hho
  have HC := Lib.hid hc
  have HW := Lib.hid hw
  have HI := Lib.hid hii
  have H1 := Lib.hid h1
  clear hpp2 hp3 hN hp hpi hx0 hx1 hx2 a0 a1 a2 hw hc hii h1 h
  obtain ⟨q0, q1, q2⟩ := HG.out _ H1.out.skip.skip
  cases hh : headOf x0 with
  | none =>
    rw [hh] at hho
    have HH := Lib.hid hho
    clear hh hho
    unfold rV
    go_enter Try.func27, Try.ntmps27
    go_wp2_with fail
    refine (Apart.head_ok HC.out.ok HI.out H1.out).mono ?_
    rintro r w2 ⟨rfl, h2⟩
    rw [HPI.out]
    clear y0 y1 y2 y3 y4 y5 y6 q0 q1 q2
    obtain ⟨y0, y1, y2, y3, y4, y5, y6⟩ := box7 h2.skip
    obtain ⟨q0, q1, q2⟩ := HG.out _ h2.skip.skip
    obtain ⟨⟨z0, z1, z2, z3⟩, ⟨f0, f1, f2, f3⟩⟩ := box4 h2
-- BODY
    go_wp2_with (go_at_call 54; refine (HH.out _).mono ?_; rintro r w3 ⟨rfl, rfl⟩)
    have h9 := sset (s' := 0) (lv' := .slice none 0 0) (t' := 0) (pv' := .slice none 0 0) h2
    obtain ⟨⟨e0, e1, e2, e3⟩, -⟩ := box4 h9
    exact bodyPost_ret (v := .tuple #[.agg #[.int .i64 0, .slice none 0 0, .int .u64 0, .slice none 0 0], .bool false]) (by simp [results, Try.f27, go_sem, e0, e1, e2, e3]) rfl ⟨rfl, h9.skip.skip⟩
  | some v =>
    obtain ⟨s, ob⟩ := v
    rw [hh] at hho
    have hge := headOf_ge hh
    simp only at hho ⊢
    have HH := Lib.hid hho
    clear hh hho
    by_cases hsS : (c.S : Int) ≤ s
    · have hlp : listP c g s ob = none := by
        unfold listP
        rw [if_neg (by omega)]
      rw [if_neg (by omega), hlp]
      simp only
      clear hlp hge
      unfold rV
      go_enter Try.func27, Try.ntmps27
      go_wp2_with fail
      refine (Apart.head_ok HC.out.ok HI.out H1.out).mono ?_
      rintro r w2 ⟨rfl, h2⟩
      rw [HPI.out]
      clear y0 y1 y2 y3 y4 y5 y6 q0 q1 q2
      obtain ⟨y0, y1, y2, y3, y4, y5, y6⟩ := box7 h2.skip
      obtain ⟨q0, q1, q2⟩ := HG.out _ h2.skip.skip
      obtain ⟨⟨z0, z1, z2, z3⟩, ⟨f0, f1, f2, f3⟩⟩ := box4 h2
      go_wp2_with (go_at_call 54; refine (HH.out _).mono ?_; rintro r w3 ⟨rfl, rfl⟩)
      have h9 := sset (s' := 0) (lv' := .slice none 0 0) (t' := 0) (pv' := .slice none 0 0) h2
      obtain ⟨⟨e0, e1, e2, e3⟩, -⟩ := box4 h9
      exact bodyPost_ret (v := .tuple #[.agg #[.int .i64 0, .slice none 0 0, .int .u64 0, .slice none 0 0], .bool false]) (by simp [results, Try.f27, go_sem, e0, e1, e2, e3]) rfl ⟨rfl, h9.skip.skip⟩
    · have hsn : ¬ (c.S : Int) ≤ s := hsS
      by_cases hm1 : s = -1
      · subst hm1
        rw [if_pos rfl]
        simp only
        clear hge
        cases hpp : partsP c g x2 with
        | none =>
          simp only
          have HPP := Lib.hid hpp
          clear hpp
          unfold rV
          go_enter Try.func27, Try.ntmps27
          go_wp2_with fail
          refine (Apart.head_ok HC.out.ok HI.out H1.out).mono ?_
          rintro r w2 ⟨rfl, h2⟩
          rw [HPI.out]
          clear y0 y1 y2 y3 y4 y5 y6 q0 q1 q2
          obtain ⟨y0, y1, y2, y3, y4, y5, y6⟩ := box7 h2.skip
          obtain ⟨q0, q1, q2⟩ := HG.out _ h2.skip.skip
          obtain ⟨⟨z0, z1, z2, z3⟩, ⟨f0, f1, f2, f3⟩⟩ := box4 h2
          go_wp2_with (go_at_call 54; refine (HH.out _).mono ?_; rintro r w3 ⟨rfl, rfl⟩)
          have h5 := sset (s' := -1) (lv' := .slice none 0 0) (t' := (x1 : Int)) (pv' := .slice none 0 0) h2
          obtain ⟨w5, hw5⟩ : ∃ w5, (((w2.setCell ⟨b + 1, 0, none⟩ (.int .i64 (-1))).setCell ⟨b + 1, 1, none⟩ (.slice none 0 0)).setCell ⟨b + 1, 2, none⟩ (.int .u64 (x1 : Int))).setCell ⟨b + 1, 3, none⟩ (.slice none 0 0) = w5 := ⟨_, rfl⟩
          rw [hw5] at h5 ⊢
          have H5 : Hid (Own W (([] : List (Nat × Obj)) ++ (sBlk (b + 1) (-1) (.slice none 0 0) x1 (.slice none 0 0) :: (rBlk b B o N k c d e :: m))) w5) := h5
          clear h5 hw5 y0 y1 y2 y3 y4 y5 y6 q0 q1 q2 z0 z1 z2 z3 f0 f1 f2 f3 h2
          have hch := fun ws (hws : Own W ([] ++ (sBlk (b + 1) (-1) (.slice none 0 0) x1 (.slice none 0 0) :: (rBlk b B o N k c d e :: m))) ws) => rchain_p hws HC.out (((HW.out.more (m' := [rBlk b B o N k c d e])).more (m' := [sBlk (b + 1) (-1) (.slice none 0 0) x1 (.slice none 0 0)])).more (m' := [])) x2 HX2.out
          have hpe : chain ofP (nextAt c g) c.S (c.S + 1) [] x2 = partsP c g x2 := rfl
          rw [hpe, HPP.out] at hch
          have h5 := H5.out
          have hw5 := h5.dropL
          obtain ⟨y0, y1, y2, y3, y4, y5, y6⟩ := box7 hw5.skip
          obtain ⟨q0, q1, q2⟩ := HG.out _ hw5.skip.skip
          obtain ⟨⟨z0, z1, z2, z3⟩, ⟨f0, f1, f2, f3⟩⟩ := box4 hw5
          have HCH := Lib.hid hch
          clear hpe hch h5 hw5
          go_region_held3 (fun w' => w'.cell? ⟨b, 0, none⟩ = some (.slice (some ⟨B, o, none⟩) N k) ∧ w'.cell? ⟨b, 1, none⟩ = some (.int .i64 c.C) ∧ w'.cell? ⟨b, 2, none⟩ = some (.int .i64 c.S) ∧ w'.cell? ⟨b, 3, none⟩ = some (.int .i64 c.O) ∧ w'.cell? ⟨b, 4, none⟩ = some (.int .i64 d) ∧ w'.cell? ⟨b, 5, none⟩ = some (.int .i64 e) ∧ w'.cell? ⟨b, 6, none⟩ = some (.int .u64 c.key) ∧ w'.cell? ⟨B, o + p2, none⟩ = some (.int .u64 (x2 : Int))) (first | (refine ⟨?_, ?_, ?_, ?_, ?_, ?_, ?_, ?_⟩ <;> assumption) | go_keep)
            (first | (go_at_call 28; refine (HCH.out _ H5.out.drew).mono ?_; rintro r w6 ⟨rfl, h6⟩; have h7 := h6.dropL; obtain ⟨y0, y1, y2, y3, y4, y5, y6⟩ := box7 h7.skip; obtain ⟨q0, q1, q2⟩ := HG.out _ h7.skip.skip; obtain ⟨⟨z0, z1, z2, z3⟩, ⟨f0, f1, f2, f3⟩⟩ := box4 h7))
          have h8 := sset3 (pv' := .slice none 0 0) h7
          obtain ⟨w8, hw8⟩ : ∃ w8, w6.setCell ⟨b + 1, 3, none⟩ (.slice none 0 0) = w8 := ⟨_, rfl⟩
          rw [hw8] at h8 ⊢
          clear y0 y1 y2 y3 y4 y5 y6 q0 q1 q2 z0 z1 z2 z3 f0 f1 f2 f3 hw8
          obtain ⟨⟨z0, z1, z2, z3⟩, ⟨f0, f1, f2, f3⟩⟩ := box4 h8
          go_wp2_with fail
          have h9 := sset (s' := 0) (lv' := .slice none 0 0) (t' := 0) (pv' := .slice none 0 0) h8
          obtain ⟨⟨e0, e1, e2, e3⟩, -⟩ := box4 h9
          exact bodyPost_ret (v := .tuple #[.agg #[.int .i64 0, .slice none 0 0, .int .u64 0, .slice none 0 0], .bool false]) (by simp [results, Try.f27, go_sem, e0, e1, e2, e3]) rfl ⟨rfl, h9.skip.skip⟩
        | some l2 =>
          simp only
          have HPP := Lib.hid hpp
          clear hpp
          unfold rV
          go_enter Try.func27, Try.ntmps27
          go_wp2_with fail
          refine (Apart.head_ok HC.out.ok HI.out H1.out).mono ?_
          rintro r w2 ⟨rfl, h2⟩
          rw [HPI.out]
          clear y0 y1 y2 y3 y4 y5 y6 q0 q1 q2
          obtain ⟨y0, y1, y2, y3, y4, y5, y6⟩ := box7 h2.skip
          obtain ⟨q0, q1, q2⟩ := HG.out _ h2.skip.skip
          obtain ⟨⟨z0, z1, z2, z3⟩, ⟨f0, f1, f2, f3⟩⟩ := box4 h2
          go_wp2_with (go_at_call 54; refine (HH.out _).mono ?_; rintro r w3 ⟨rfl, rfl⟩)
          have h5 := sset (s' := -1) (lv' := .slice none 0 0) (t' := (x1 : Int)) (pv' := .slice none 0 0) h2
          obtain ⟨w5, hw5⟩ : ∃ w5, (((w2.setCell ⟨b + 1, 0, none⟩ (.int .i64 (-1))).setCell ⟨b + 1, 1, none⟩ (.slice none 0 0)).setCell ⟨b + 1, 2, none⟩ (.int .u64 (x1 : Int))).setCell ⟨b + 1, 3, none⟩ (.slice none 0 0) = w5 := ⟨_, rfl⟩
          rw [hw5] at h5 ⊢
          have H5 : Hid (Own W (([] : List (Nat × Obj)) ++ (sBlk (b + 1) (-1) (.slice none 0 0) x1 (.slice none 0 0) :: (rBlk b B o N k c d e :: m))) w5) := h5
          clear h5 hw5 y0 y1 y2 y3 y4 y5 y6 q0 q1 q2 z0 z1 z2 z3 f0 f1 f2 f3 h2
          have hch := fun ws (hws : Own W ([] ++ (sBlk (b + 1) (-1) (.slice none 0 0) x1 (.slice none 0 0) :: (rBlk b B o N k c d e :: m))) ws) => rchain_p hws HC.out (((HW.out.more (m' := [rBlk b B o N k c d e])).more (m' := [sBlk (b + 1) (-1) (.slice none 0 0) x1 (.slice none 0 0)])).more (m' := [])) x2 HX2.out
          have hpe : chain ofP (nextAt c g) c.S (c.S + 1) [] x2 = partsP c g x2 := rfl
          rw [hpe, HPP.out] at hch
          have h5 := H5.out
          have hw5 := h5.dropL
          obtain ⟨y0, y1, y2, y3, y4, y5, y6⟩ := box7 hw5.skip
          obtain ⟨q0, q1, q2⟩ := HG.out _ hw5.skip.skip
          obtain ⟨⟨z0, z1, z2, z3⟩, ⟨f0, f1, f2, f3⟩⟩ := box4 hw5
          have HCH := Lib.hid hch
          clear hpe hch h5 hw5
          go_region_held3 (fun w' => w'.cell? ⟨b, 0, none⟩ = some (.slice (some ⟨B, o, none⟩) N k) ∧ w'.cell? ⟨b, 1, none⟩ = some (.int .i64 c.C) ∧ w'.cell? ⟨b, 2, none⟩ = some (.int .i64 c.S) ∧ w'.cell? ⟨b, 3, none⟩ = some (.int .i64 c.O) ∧ w'.cell? ⟨b, 4, none⟩ = some (.int .i64 d) ∧ w'.cell? ⟨b, 5, none⟩ = some (.int .i64 e) ∧ w'.cell? ⟨b, 6, none⟩ = some (.int .u64 c.key) ∧ w'.cell? ⟨B, o + p2, none⟩ = some (.int .u64 (x2 : Int))) (first | (refine ⟨?_, ?_, ?_, ?_, ?_, ?_, ?_, ?_⟩ <;> assumption) | go_keep)
            (first | (go_at_call 28; refine (HCH.out _ H5.out.drew).mono ?_; rintro r w6 ⟨v6, b6, rfl, K6, h6⟩; obtain ⟨A6, c6, hv6, -, -⟩ := K6.out.slice; subst hv6; have h7 := h6.dropL.dropL; obtain ⟨y0, y1, y2, y3, y4, y5, y6⟩ := box7 h7.skip; obtain ⟨q0, q1, q2⟩ := HG.out _ h7.skip.skip; obtain ⟨⟨z0, z1, z2, z3⟩, ⟨f0, f1, f2, f3⟩⟩ := box4 h7))
          have hq : Own W (sBlk (b + 1) (-1) (.slice none 0 0) x1 (.slice none 0 0) :: (rBlk b B o N k c d e :: (b6 ++ ([] ++ m)))) w6 := h6.perm (slot_perm _ _ _ _ _)
          have h8 := sset3 (pv' := .slice A6 l2.length c6) hq
          obtain ⟨w8, hw8⟩ : ∃ w8, w6.setCell ⟨b + 1, 3, none⟩ (.slice A6 l2.length c6) = w8 := ⟨_, rfl⟩
          rw [hw8] at h8 ⊢
          clear y0 y1 y2 y3 y4 y5 y6 q0 q1 q2 z0 z1 z2 z3 f0 f1 f2 f3 hw8
          obtain ⟨⟨z0, z1, z2, z3⟩, ⟨f0, f1, f2, f3⟩⟩ := box4 h8
          go_wp2_with fail
          have h9 := sset (s' := (-1)) (lv' := (.slice none 0 0)) (t' := (x1 : Int)) (pv' := .slice A6 l2.length c6) h8
          obtain ⟨⟨e0, e1, e2, e3⟩, -⟩ := box4 h9
          exact bodyPost_ret (v := .tuple #[.agg #[.int .i64 (-1), (.slice none 0 0), .int .u64 x1, .slice A6 l2.length c6], .bool true]) (by simp [results, Try.f27, go_sem, e0, e1, e2, e3]) rfl ⟨(.slice none 0 0), [], _, b6, rfl, SlO.nil _ _ _, K6, (h9.skip.skip).swap⟩
      · rw [if_neg hm1]
        have hsb : (s == -1) = false := beq_eq_false_iff_ne.2 hm1
        obtain ⟨j, rfl⟩ : ∃ j : Nat, s = j := ⟨s.toNat, by omega⟩
        have hjS : j < c.S := by omega
        have hob : -1 ≤ ob := by omega
        have hrl := fun ws (hws : Own W (sBlk (b + 1) j (.slice none 0 0) x1 (.slice none 0 0) :: (rBlk b B o N k c d e :: m)) ws) => rlist_spec hws HC.out ((HW.out.more (m' := [rBlk b B o N k c d e])).more (m' := [sBlk (b + 1) j (.slice none 0 0) x1 (.slice none 0 0)])) j hjS ob hob
        clear hge
        cases hl : listP c g j ob with
        | none =>
          rw [hl] at hrl
          have HRL := Lib.hid hrl
          simp only
          clear hl hrl
          unfold rV
          go_enter Try.func27, Try.ntmps27
          go_wp2_with fail
          refine (Apart.head_ok HC.out.ok HI.out H1.out).mono ?_
          rintro r w2 ⟨rfl, h2⟩
          rw [HPI.out]
          clear y0 y1 y2 y3 y4 y5 y6 q0 q1 q2
          obtain ⟨y0, y1, y2, y3, y4, y5, y6⟩ := box7 h2.skip
          obtain ⟨q0, q1, q2⟩ := HG.out _ h2.skip.skip
          obtain ⟨⟨z0, z1, z2, z3⟩, ⟨f0, f1, f2, f3⟩⟩ := box4 h2
          go_wp2_with (go_at_call 54; refine (HH.out _).mono ?_; rintro r w3 ⟨rfl, rfl⟩)
          have h5 := sset (s' := (j : Int)) (lv' := .slice none 0 0) (t' := (x1 : Int)) (pv' := .slice none 0 0) h2
          refine (HRL.out _ h5).mono ?_
          rintro r w6 ⟨rfl, h6⟩
          clear y0 y1 y2 y3 y4 y5 y6 q0 q1 q2 z0 z1 z2 z3 f0 f1 f2 f3 h2
          obtain ⟨⟨z0, z1, z2, z3⟩, ⟨f0, f1, f2, f3⟩⟩ := box4 h6
          go_wp2_with fail
          have h8 := sset1 (lv' := .slice none 0 0) h6
          have h9 := sset (s' := 0) (lv' := .slice none 0 0) (t' := 0) (pv' := .slice none 0 0) h8
          obtain ⟨⟨e0, e1, e2, e3⟩, -⟩ := box4 h9
          exact bodyPost_ret (v := .tuple #[.agg #[.int .i64 0, .slice none 0 0, .int .u64 0, .slice none 0 0], .bool false]) (by simp [results, Try.f27, go_sem, e0, e1, e2, e3]) rfl ⟨rfl, h9.skip.skip⟩
        | some l1 =>
          rw [hl] at hrl
          have HRL := Lib.hid hrl
          simp only
          clear hl hrl
          cases hpp : partsP c g x2 with
          | none =>
            simp only
            have HPP := Lib.hid hpp
            clear hpp
            unfold rV
            go_enter Try.func27, Try.ntmps27
            go_wp2_with fail
            refine (Apart.head_ok HC.out.ok HI.out H1.out).mono ?_
            rintro r w2 ⟨rfl, h2⟩
            rw [HPI.out]
            clear y0 y1 y2 y3 y4 y5 y6 q0 q1 q2
            obtain ⟨y0, y1, y2, y3, y4, y5, y6⟩ := box7 h2.skip
            obtain ⟨q0, q1, q2⟩ := HG.out _ h2.skip.skip
            obtain ⟨⟨z0, z1, z2, z3⟩, ⟨f0, f1, f2, f3⟩⟩ := box4 h2
            go_wp2_with (go_at_call 54; refine (HH.out _).mono ?_; rintro r w3 ⟨rfl, rfl⟩)
            have h5 := sset (s' := (j : Int)) (lv' := .slice none 0 0) (t' := (x1 : Int)) (pv' := .slice none 0 0) h2
            refine (HRL.out _ h5).mono ?_
            rintro r w6 ⟨v7, b7, rfl, K7, h6⟩
            obtain ⟨A7, c7, hv7, -, -⟩ := K7.out.slice
            subst hv7
            clear y0 y1 y2 y3 y4 y5 y6 q0 q1 q2 z0 z1 z2 z3 f0 f1 f2 f3 h2
            have h7 : Own W (sBlk (b + 1) j (.slice none 0 0) x1 (.slice none 0 0) :: (b7 ++ (rBlk b B o N k c d e :: m))) w6 := h6.perm List.perm_middle
            obtain ⟨⟨z0, z1, z2, z3⟩, ⟨f0, f1, f2, f3⟩⟩ := box4 h7
            have h8 := sset1 (lv' := .slice A7 l1.length c7) h7
            obtain ⟨w5, hw5⟩ : ∃ w5, w6.setCell ⟨b + 1, 1, none⟩ (.slice A7 l1.length c7) = w5 := ⟨_, rfl⟩
            have H5 : Hid (Own W (b7 ++ (sBlk (b + 1) j (.slice A7 l1.length c7) x1 (.slice none 0 0) :: (rBlk b B o N k c d e :: m))) w5) := by rw [hw5] at h8; exact h8.perm List.perm_middle.symm
            go_wp2_with fail
            clear h6 h7 h8 hw5 z0 z1 z2 z3 f0 f1 f2 f3
            have hch := fun ws (hws : Own W (b7 ++ (sBlk (b + 1) (j) (.slice A7 l1.length c7) x1 (.slice none 0 0) :: (rBlk b B o N k c d e :: m))) ws) => rchain_p hws HC.out (((HW.out.more (m' := [rBlk b B o N k c d e])).more (m' := [sBlk (b + 1) (j) (.slice A7 l1.length c7) x1 (.slice none 0 0)])).more (m' := b7)) x2 HX2.out
            have hpe : chain ofP (nextAt c g) c.S (c.S + 1) [] x2 = partsP c g x2 := rfl
            rw [hpe, HPP.out] at hch
            have h5 := H5.out
            have hw5 := h5.dropL
            obtain ⟨y0, y1, y2, y3, y4, y5, y6⟩ := box7 hw5.skip
            obtain ⟨q0, q1, q2⟩ := HG.out _ hw5.skip.skip
            obtain ⟨⟨z0, z1, z2, z3⟩, ⟨f0, f1, f2, f3⟩⟩ := box4 hw5
            have HCH := Lib.hid hch
            clear hpe hch h5 hw5
            go_region_held3 (fun w' => w'.cell? ⟨b, 0, none⟩ = some (.slice (some ⟨B, o, none⟩) N k) ∧ w'.cell? ⟨b, 1, none⟩ = some (.int .i64 c.C) ∧ w'.cell? ⟨b, 2, none⟩ = some (.int .i64 c.S) ∧ w'.cell? ⟨b, 3, none⟩ = some (.int .i64 c.O) ∧ w'.cell? ⟨b, 4, none⟩ = some (.int .i64 d) ∧ w'.cell? ⟨b, 5, none⟩ = some (.int .i64 e) ∧ w'.cell? ⟨b, 6, none⟩ = some (.int .u64 c.key) ∧ w'.cell? ⟨B, o + p2, none⟩ = some (.int .u64 (x2 : Int))) (first | (refine ⟨?_, ?_, ?_, ?_, ?_, ?_, ?_, ?_⟩ <;> assumption) | go_keep)
              (first | (go_at_call 28; refine (HCH.out _ H5.out.drew).mono ?_; rintro r w6 ⟨rfl, h6⟩; have h7 := h6.dropL; obtain ⟨y0, y1, y2, y3, y4, y5, y6⟩ := box7 h7.skip; obtain ⟨q0, q1, q2⟩ := HG.out _ h7.skip.skip; obtain ⟨⟨z0, z1, z2, z3⟩, ⟨f0, f1, f2, f3⟩⟩ := box4 h7))
            have h8 := sset3 (pv' := .slice none 0 0) h7
            obtain ⟨w8, hw8⟩ : ∃ w8, w6.setCell ⟨b + 1, 3, none⟩ (.slice none 0 0) = w8 := ⟨_, rfl⟩
            rw [hw8] at h8 ⊢
            clear y0 y1 y2 y3 y4 y5 y6 q0 q1 q2 z0 z1 z2 z3 f0 f1 f2 f3 hw8
            obtain ⟨⟨z0, z1, z2, z3⟩, ⟨f0, f1, f2, f3⟩⟩ := box4 h8
            go_wp2_with fail
            have h9 := sset (s' := 0) (lv' := .slice none 0 0) (t' := 0) (pv' := .slice none 0 0) h8
            obtain ⟨⟨e0, e1, e2, e3⟩, -⟩ := box4 h9
            exact bodyPost_ret (v := .tuple #[.agg #[.int .i64 0, .slice none 0 0, .int .u64 0, .slice none 0 0], .bool false]) (by simp [results, Try.f27, go_sem, e0, e1, e2, e3]) rfl ⟨rfl, h9.skip.skip⟩
          | some l2 =>
            simp only
            have HPP := Lib.hid hpp
            clear hpp
            unfold rV
            go_enter Try.func27, Try.ntmps27
            go_wp2_with fail
            refine (Apart.head_ok HC.out.ok HI.out H1.out).mono ?_
            rintro r w2 ⟨rfl, h2⟩
            rw [HPI.out]
            clear y0 y1 y2 y3 y4 y5 y6 q0 q1 q2
            obtain ⟨y0, y1, y2, y3, y4, y5, y6⟩ := box7 h2.skip
            obtain ⟨q0, q1, q2⟩ := HG.out _ h2.skip.skip
            obtain ⟨⟨z0, z1, z2, z3⟩, ⟨f0, f1, f2, f3⟩⟩ := box4 h2
            go_wp2_with (go_at_call 54; refine (HH.out _).mono ?_; rintro r w3 ⟨rfl, rfl⟩)
            have h5 := sset (s' := (j : Int)) (lv' := .slice none 0 0) (t' := (x1 : Int)) (pv' := .slice none 0 0) h2
            refine (HRL.out _ h5).mono ?_
            rintro r w6 ⟨v7, b7, rfl, K7, h6⟩
            obtain ⟨A7, c7, hv7, -, -⟩ := K7.out.slice
            subst hv7
            clear y0 y1 y2 y3 y4 y5 y6 q0 q1 q2 z0 z1 z2 z3 f0 f1 f2 f3 h2
            have h7 : Own W (sBlk (b + 1) j (.slice none 0 0) x1 (.slice none 0 0) :: (b7 ++ (rBlk b B o N k c d e :: m))) w6 := h6.perm List.perm_middle
            obtain ⟨⟨z0, z1, z2, z3⟩, ⟨f0, f1, f2, f3⟩⟩ := box4 h7
            have h8 := sset1 (lv' := .slice A7 l1.length c7) h7
            obtain ⟨w5, hw5⟩ : ∃ w5, w6.setCell ⟨b + 1, 1, none⟩ (.slice A7 l1.length c7) = w5 := ⟨_, rfl⟩
            have H5 : Hid (Own W (b7 ++ (sBlk (b + 1) j (.slice A7 l1.length c7) x1 (.slice none 0 0) :: (rBlk b B o N k c d e :: m))) w5) := by rw [hw5] at h8; exact h8.perm List.perm_middle.symm
            go_wp2_with fail
            clear h6 h7 h8 hw5 z0 z1 z2 z3 f0 f1 f2 f3
            have hch := fun ws (hws : Own W (b7 ++ (sBlk (b + 1) (j) (.slice A7 l1.length c7) x1 (.slice none 0 0) :: (rBlk b B o N k c d e :: m))) ws) => rchain_p hws HC.out (((HW.out.more (m' := [rBlk b B o N k c d e])).more (m' := [sBlk (b + 1) (j) (.slice A7 l1.length c7) x1 (.slice none 0 0)])).more (m' := b7)) x2 HX2.out
            have hpe : chain ofP (nextAt c g) c.S (c.S + 1) [] x2 = partsP c g x2 := rfl
            rw [hpe, HPP.out] at hch
            have h5 := H5.out
            have hw5 := h5.dropL
            obtain ⟨y0, y1, y2, y3, y4, y5, y6⟩ := box7 hw5.skip
            obtain ⟨q0, q1, q2⟩ := HG.out _ hw5.skip.skip
            obtain ⟨⟨z0, z1, z2, z3⟩, ⟨f0, f1, f2, f3⟩⟩ := box4 hw5
            have HCH := Lib.hid hch
            clear hpe hch h5 hw5
            go_region_held3 (fun w' => w'.cell? ⟨b, 0, none⟩ = some (.slice (some ⟨B, o, none⟩) N k) ∧ w'.cell? ⟨b, 1, none⟩ = some (.int .i64 c.C) ∧ w'.cell? ⟨b, 2, none⟩ = some (.int .i64 c.S) ∧ w'.cell? ⟨b, 3, none⟩ = some (.int .i64 c.O) ∧ w'.cell? ⟨b, 4, none⟩ = some (.int .i64 d) ∧ w'.cell? ⟨b, 5, none⟩ = some (.int .i64 e) ∧ w'.cell? ⟨b, 6, none⟩ = some (.int .u64 c.key) ∧ w'.cell? ⟨B, o + p2, none⟩ = some (.int .u64 (x2 : Int))) (first | (refine ⟨?_, ?_, ?_, ?_, ?_, ?_, ?_, ?_⟩ <;> assumption) | go_keep)
              (first | (go_at_call 28; refine (HCH.out _ H5.out.drew).mono ?_; rintro r w6 ⟨v6, b6, rfl, K6, h6⟩; obtain ⟨A6, c6, hv6, -, -⟩ := K6.out.slice; subst hv6; have h7 := h6.dropL.dropL; obtain ⟨y0, y1, y2, y3, y4, y5, y6⟩ := box7 h7.skip; obtain ⟨q0, q1, q2⟩ := HG.out _ h7.skip.skip; obtain ⟨⟨z0, z1, z2, z3⟩, ⟨f0, f1, f2, f3⟩⟩ := box4 h7))
            have hq : Own W (sBlk (b + 1) (j) (.slice A7 l1.length c7) x1 (.slice none 0 0) :: (rBlk b B o N k c d e :: (b6 ++ (b7 ++ m)))) w6 := h6.perm (slot_perm _ _ _ _ _)
            have h8 := sset3 (pv' := .slice A6 l2.length c6) hq
            obtain ⟨w8, hw8⟩ : ∃ w8, w6.setCell ⟨b + 1, 3, none⟩ (.slice A6 l2.length c6) = w8 := ⟨_, rfl⟩
            rw [hw8] at h8 ⊢
            clear y0 y1 y2 y3 y4 y5 y6 q0 q1 q2 z0 z1 z2 z3 f0 f1 f2 f3 hw8
            obtain ⟨⟨z0, z1, z2, z3⟩, ⟨f0, f1, f2, f3⟩⟩ := box4 h8
            go_wp2_with fail
            have h9 := sset (s' := (j)) (lv' := (.slice A7 l1.length c7)) (t' := (x1 : Int)) (pv' := .slice A6 l2.length c6) h8
            obtain ⟨⟨e0, e1, e2, e3⟩, -⟩ := box4 h9
            exact bodyPost_ret (v := .tuple #[.agg #[.int .i64 (j), (.slice A7 l1.length c7), .int .u64 x1, .slice A6 l2.length c6], .bool true]) (by simp [results, Try.f27, go_sem, e0, e1, e2, e3]) rfl ⟨(.slice A7 l1.length c7), b7, _, b6, rfl, K7, K6, (h9.skip.skip).swap⟩
-- BODYEND
end
end Go.Proofs.Ytmfemophafncnaa.See
