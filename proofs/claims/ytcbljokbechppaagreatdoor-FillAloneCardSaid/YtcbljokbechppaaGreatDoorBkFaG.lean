import Derived.Test.YtcbljokbechppaaGreatDoorBkFaL
/-
  wainscotlaw24.FillAlone: the whole. No condition.
-/
namespace Go.Proofs.YtcbljokbechppaaGreatDoor.Fa
open Go Ex Mem See
open Go.RowKit Go.ChangeShapes
namespace Na
theorem fA_or (m : Nat) (b : Bool) : fA m (b || m != 3) = fA m b := by
  unfold fA fLen
  by_cases h3 : m = 3
  · subst h3
    rw [show (b || 3 != 3) = b by cases b <;> rfl]
  · rw [if_neg h3, if_neg h3]
theorem facts_X {x : Na} (h : x.Ok) : ∀ q ∈ fX x.m x.kept (decide (3 < x.ex.length) || x.m != 3), q.1.ev x.σA = q.2 := by
  intro q hq
  unfold fX at hq
  rw [fA_or] at hq
  rcases List.mem_append.1 hq with hq | hq
  · rcases List.mem_append.1 hq with hq | hq
    · exact facts_A h q hq
    · exact facts_T h q hq
  · exact facts_See h q hq
/-- .. of all such numbers -/
theorem law_of {x : Na} (h : x.Ok) (w : World) (hg : Tabs FillTab.gs w) {A : Option Addr} {len cap : Nat} (hlc : len ≤ cap) (hcap : cap ≤ maxLen)
    (hb : x.ex.length = len) (hbc : ∀ a, A = some a → 0 < len → a.block < w.heap.size ∧ ∀ e, e < len → w.cell? (a.add e) = some ((ckOf (some .i64)).val (x.ex[e]?.getD 0))) (hbn : A = none → len = 0) :
    Calls Tryz.prog 4 #[.int .i64 x.r0, .bool x.kept, .slice A len cap] w fun r w' => r = .returned (.bool true) ∧ Own w [] w' := by
  have ok := facts_X h
  have hl : x.lA 40 = one x.ex := by unfold lA; rw [if_pos rfl]
  have hb40 : x.σA (ln 40) = (len : Int) := by
    unfold σA
    rw [sg_oneN (L := x.ex) (by omega) hl, hb]
  have hc40 : ∀ e, x.σA (lc 40 e 0) = x.ex[e]?.getD 0 := fun e => by
    unfold σA
    rw [sg_one (L := x.ex) (by omega) hl, List.getD_eq_getElem?_getD]
  have hrun : treeC Tryz.prog FillTab.gs rk40 (kcsA x.m x.kept) [] 30 4 (argA x.kept) ⟨[], [], ⟨0, 0, 0, 0⟩⟩ (.is (.bool true) []) (fX x.m x.kept (decide (3 < x.ex.length) || x.m != 3)) = true := runA_ok x.m x.kept (decide (3 < x.ex.length)) h.m
  refine law_calls (f := 4) mixed (kcs_A (A := A) (len := len) (cap := cap) h) lnAll_nil ok hrun rfl w hg ?_ ?_
  · intro i ck A' len' c' hck hro
    have hro : roW A len cap i = some (A', len', c') := hro
    obtain rfl := roW_40 _ _ hro
    have hro : some (A, len, cap) = some (A', len', c') := hro
    cases hro
    have hck : some (CK.int .i64) = some ck := hck
    cases hck
    refine ⟨show (x.σA (ln 40)).toNat = len by rw [hb40]; rfl, fun a ha h0 => ?_⟩
    obtain ⟨h1, h2⟩ := hbc a ha h0
    refine ⟨h1, fun e he => ?_⟩
    rw [h2 e he]
    show some (Value.int .i64 _) = some (Value.int .i64 (x.σA (lc 40 e 0)))
    rw [hc40]
  · letI N : Nums := nums FillTab.gs rk40 (roW A len cap) x.σA Ωn _ ok
    show VRs (fun _ => none) [.sym .i64 (v 30), .bool x.kept, .rsl 40] [.int .i64 x.r0, .bool x.kept, .slice A len cap]
    refine VRs.cons ?_ (VRs.cons ?_ (VRs.cons ?_ VRs.nil))
    · unfold VR
      show _ = Value.int .i64 ((v 30).ev x.σA)
      rw [ev (by omega)]
      rfl
    · unfold VR
      rfl
    · unfold VR
      exact ⟨A, len, cap, rfl, rfl, hlc, hcap, show (x.σA (ln 40)).toNat = len by rw [hb40]; rfl, hbn⟩
end Na
theorem nat_of (x m : Int) (hm : 1 ≤ m) : ∃ a : Nat, x % m = a ∧ (a : Int) < m := by
  have h1 := Int.emod_nonneg x (show m ≠ 0 by omega)
  have h2 := Int.emod_lt_of_pos x (show 0 < m by omega)
  generalize x % m = r at h1 h2
  exact ⟨r.toNat, by omega, by omega⟩
/-- THE LAW -/
theorem alone_law (w : World) (hg : Tabs FillTab.gs w) (n0 : Int) (b1 : Bool) (h0 : (Lit.int .i64 n0).wf = true) (A : Option Addr) (len cap : Nat) (hlc : len ≤ cap) (hcap : cap ≤ maxLen) (hat : FlatAt w [some .i64] A len) :
    Calls Tryz.prog 4 #[.int .i64 n0, .bool b1, .slice A len cap] w fun r w' => r = .returned (.bool true) ∧ Own w [] w' := by
  obtain ⟨ex, hwl, hbc, hbn, hwf⟩ := flat_list hat
  obtain ⟨a, ha, ha2⟩ := nat_of n0 16 (by omega)
  have hk : (1 : Int) ≤ ((a + 1 : Nat) : Int) := by omega
  have hex : ∀ y : Int, ∃ b : Nat, y % ((a + 1 : Nat) : Int) = b ∧ (b : Int) < ((a + 1 : Nat) : Int) := fun y => nat_of y _ hk
  have hmx : len < 9223372036854775808 := by
    have : cap < 9223372036854775808 := Nat.lt_of_le_of_lt hcap (by unfold maxLen; omega)
    omega
  let f : Nat → Int := fun s => if s = 3 then (ex.length : Int) else ex.getD s 0
  let ow : Nat → Nat := fun s => 1 + (f s % ((a + 1 : Nat) : Int)).toNat
  have how : ∀ s, (ow s : Int) = 1 + f s % ((a + 1 : Nat) : Int) ∧ 1 ≤ ow s ∧ ow s ≤ a + 1 := fun s => by
    obtain ⟨b, hb, hb2⟩ := hex (f s)
    show (((1 + (f s % ((a + 1 : Nat) : Int)).toNat : Nat)) : Int) = _ ∧ 1 ≤ 1 + (f s % ((a + 1 : Nat) : Int)).toNat ∧ 1 + (f s % ((a + 1 : Nat) : Int)).toNat ≤ _
    rw [hb, Int.toNat_natCast]
    omega
  refine Na.law_of (x := ⟨a, ow, min ex.length 3, b1, n0, ex⟩) ⟨?_, ?_, ?_, ha, h0, hwf, ?_, rfl, ?_, ?_⟩ w hg hlc hcap hwl hbc hbn
  · show a < 16
    omega
  · exact fun s => ⟨(how s).2.1, (how s).2.2⟩
  · show min ex.length 3 ≤ 3
    omega
  · show ex.length < _
    omega
  · exact (how 3).1
  · intro s hs
    have hs : s < min ex.length 3 := hs
    have := (how s).1
    have e : f s = ex.getD s 0 := if_neg (by omega)
    rw [e] at this
    exact this
end Go.Proofs.YtcbljokbechppaaGreatDoor.Fa
