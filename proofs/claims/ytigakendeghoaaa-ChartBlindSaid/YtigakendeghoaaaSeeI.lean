/-
  A core that was seen: what its value owns; append of its parts. No condition.
-/
import Derived.Test.YtigakendeghoaaaSeeH
namespace Go.Proofs.Ytigakendeghoaaa.See
open Go.RowKit
theorem slot_info : (Try.prog.info? 78).map (fun i => (i.zero, i.size, i.bytes)) = some (some (.agg #[.int .i64 0, .slice none 0 0, .int .u64 0, .slice none 0 0]), 4, 64) := by kernel_rfl
theorem slab_info : (Try.prog.info? 82).map (fun i => (i.zero, i.size, i.bytes)) = some (some (.agg #[.int .i64 0, .int .i64 0, .bool false, .bool false, .slice none 0 0]), 5, 48) := by kernel_rfl
/-- a slot, with what it owns -/
structure SlotN where
  x : SlotP
  lv : Value
  lb : List (Nat × Obj)
  pv : Value
  pb : List (Nat × Obj)
def SlotN.cells (s : SlotN) : List Value := [.int .i64 s.x.slab, s.lv, .int .u64 s.x.turn, s.pv]
def slotCells (L : List SlotN) : List Value := L.flatMap SlotN.cells
def slotBlocks (L : List SlotN) : List (Nat × Obj) := L.flatMap fun s => s.lb ++ s.pb
def SlotsOk (L : List SlotN) : Prop := ∀ s ∈ L, IntsOwn true s.lv s.x.list s.lb ∧ IntsOwn true s.pv s.x.parts s.pb
/-- a slab, with what it owns -/
structure SlabN where
  x : SlabP
  v : Value
  b : List (Nat × Obj)
def SlabN.cells (s : SlabN) : List Value := [.int .i64 s.x.counts.inuse, .int .i64 s.x.counts.objects, .bool s.x.counts.frozen, .bool s.x.counts.live, s.v]
def slabCells (L : List SlabN) : List Value := L.flatMap SlabN.cells
def slabBlocks (L : List SlabN) : List (Nat × Obj) := L.flatMap SlabN.b
def SlabsOk (L : List SlabN) : Prop := ∀ s ∈ L, IntsOwn true s.v s.x.first s.b
theorem slotCells_append (a b : List SlotN) : slotCells (a ++ b) = slotCells a ++ slotCells b := by simp [slotCells]
theorem slabCells_append (a b : List SlabN) : slabCells (a ++ b) = slabCells a ++ slabCells b := by simp [slabCells]
theorem slotBlocks_append (a b : List SlotN) : slotBlocks (a ++ b) = slotBlocks a ++ slotBlocks b := by simp [slotBlocks]
theorem slabBlocks_append (a b : List SlabN) : slabBlocks (a ++ b) = slabBlocks a ++ slabBlocks b := by simp [slabBlocks]
abbrev SlotsV (v : Value) (L : List SlotN) (bs : List (Nat × Obj)) : Prop := SlO true 78 4 v L.length (slotCells L) bs
abbrev SlabsV (v : Value) (L : List SlabN) (bs : List (Nat × Obj)) : Prop := SlO true 82 5 v L.length (slabCells L) bs
/-- a core's value -/
def CoreO (v : Value) (K : CoreP) (bs : List (Nat × Obj)) : Prop := ∃ (Ls : List SlotN) (sv : Value) (b0 : List (Nat × Obj)) (hv : Value) (b1 : List (Nat × Obj)) (Ll : List SlabN) (lv : Value) (b2 : List (Nat × Obj)),
  v = .agg #[sv, hv, .bool K.locked, lv] ∧ Ls.map (·.x) = K.slots ∧ SlotsOk Ls ∧ SlotsV sv Ls b0 ∧ IntsOwn true hv K.shelf b1 ∧ Ll.map (·.x) = K.slabs ∧ SlabsOk Ll ∧ SlabsV lv Ll b2 ∧ bs = b0 ++ (slotBlocks Ls ++ (b1 ++ (b2 ++ slabBlocks Ll)))
section
variable {P : Program} {W w : World} {m bs : List (Nat × Obj)} {v xv : Value} {xs news : List Value} {e size n k bytes : Nat}
/-- append, of structs of any cells -/
theorem app_struct {ops : Array Oper} {rest : List Oper} {o : Oper} {a : Act} {Q : Exit → Act → World → Prop} (hgd : o.guard = none) (s x : Operand) (t : TypeId)
    (ho : o.op = .call { callee := .builtin .append, args := #[s, x], argTypes := #[t, t] }) (hes : a.eval s = v) (hex : a.eval x = xv)
    (z : Value) (hinfo : (P.info? e).map (fun i => (i.zero, i.size, i.bytes)) = some (some z, size, bytes)) (ht : P.underlying t = some (.slice e)) (hzs : z.cells.size = size) (hsz : 0 < size) (hb : bytes ≤ 200)
    (hs : SlO true e size v n xs bs) (hO : Own W (bs ++ m) w) (hx : Src w size xv k news) (h1 : ∀ u ∈ news, u.oneCell' = true) (hlen : n + k ≤ 60000)
    (h : ∀ v' w' bs', SlO true e size v' (n + k) (xs ++ news) bs' → Own W (bs' ++ m) w' → wpList P ops Q rest (a.put o.dst v') w') :
    wpList P ops Q (o :: rest) a w := by
  obtain ⟨i, hi, hz, hsz', hby⟩ := info_get hinfo
  have hbb : (n + k) * bytes ≤ 60000 * 200 := Nat.mul_le_mul hlen hb
  exact wpList_app hgd s x t ho hes hex e i z size bytes ht hi hz hsz' hby hzs hsz hs hO hx h1 (by unfold maxLen; omega) (by omega) fun v' w' bs' h1 h2 _ => h v' w' bs' h1 h2
/-- a struct that the code writes down, in a block of its own -/
theorem src_vals (w : World) (e : TypeId) (l : List Value) : Src (w.alloc (.cells l.toArray e)) l.length (.slice (some ⟨w.heap.size, 0, none⟩) 1 1) 1 l := by
  refine ⟨by simp, .inr ⟨_, _, rfl, fun j u hj => ?_⟩⟩
  rw [add_lit0]
  simp [hj]
theorem IntsOwn.one {ex : Bool} {v : Value} {l : List Int} {b : List (Nat × Obj)} (h : IntsOwn ex v l b) : v.oneCell' = true := by
  obtain ⟨A, c, rfl, -, -⟩ := SlO.slice h
  rfl
end
end Go.Proofs.Ytigakendeghoaaa.See
