/- A world that has grown, as an equation; the contract of Next. -/
import Derived.Test.YtijiffgfodlepaaB
import Derived.Lib.Hide
namespace Go.Proofs.Ytijiffgfodlepaa
open Go.RowKit Go.MapKept Go.BigFrame

structure Ext where
  obs : List Obj
  d : Nat

instance : Nonempty Ext := ⟨⟨[], 0⟩⟩

/-- w with blocks more, and another count of draws. -/
def ext (w : World) (x : Ext) : World := { w with heap := w.heap ++ x.obs.toArray, drawn := x.d }

theorem below_ext (w : World) (x : Ext) : Below w.heap.size w (ext w x) :=
  ⟨rfl, rfl, rfl, by simp [ext], fun k hk => by simp [ext, Array.getElem?_append_left hk]⟩

theorem ext_of_below {w w' : World} (h : Below w.heap.size w w') : ∃ x, w' = ext w x := by
  refine ⟨⟨w'.heap.toList.drop w.heap.size, w'.drawn⟩, ?_⟩
  have e : w'.heap = w.heap ++ (w'.heap.toList.drop w.heap.size).toArray := by
    apply Array.ext'
    have : w.heap.toList = w'.heap.toList.take w.heap.size := by
      apply List.ext_getElem?
      intro i
      rw [List.getElem?_take]
      split
      · rename_i hi; have := h.block i hi; simpa using this.symm
      · rename_i hi; simp at hi ⊢; omega
    simp only [Array.toList_append]
    conv => rhs; lhs; rw [this]
    simp
  obtain ⟨h1, h2, h3, h4, h5⟩ := h
  unfold ext
  simp only
  rw [← e, ← h1, ← h2, ← h3]

theorem ext_ext (w : World) (x y : Ext) : ∃ z, ext (ext w x) y = ext w z := by
  refine ⟨⟨x.obs ++ y.obs, y.d⟩, ?_⟩
  simp [ext]

theorem calls_ext {P : Program} {f : FuncId} {args : Array Value} {w : World} {x : Ext} {v : Value} (h : Calls P f args (ext w x) fun e w' => e = .returned v ∧ Below (ext w x).heap.size (ext w x) w') :
    Calls P f args (ext w x) fun e w'' => e = .returned v ∧ ∃ y, w'' = ext w y :=
  h.mono fun _ _ ⟨he, hb⟩ => ⟨he, by
    obtain ⟨y, hy⟩ := ext_of_below hb
    obtain ⟨z, hz⟩ := ext_ext w x y
    exact ⟨z, hy.trans hz⟩⟩

/-- A region that draws its order, whose operations read, and whose callees read and make memory: one walk. -/
theorem region_ext {P : Program} {id : Nat} {Q : Exit → Act → World → Prop} {a : Act} {W : World} {l : List Oper} (hm : P.follows .mixedOrders = true) (hB : Region.lexB .any l.toArray = true)
    (h : wpQuiet P l.toArray (fun w' => ∃ x, w' = ext W x) (fun a' => ∀ w', (∃ x, w' = ext W x) → Q .normal a' w') l a) : (Code.region id l.toArray true).wp P Q a W :=
  wp_region_quiet (C := fun w' => ∃ x, w' = ext W x) hm hB (ext_of_below ⟨rfl, rfl, rfl, Nat.le_refl _, fun _ _ => rfl⟩) (by simpa using h)

/-- A region that draws its order, all of whose operations but a forced tail read. -/
theorem region_tail {P : Program} {id : Nat} {Q : Exit → Act → World → Prop} {a : Act} {W : World} {l : List Oper} (n : Nat) (hm : P.follows .mixedOrders = true) (hB : Region.lexTailB .any l.toArray n = true)
    (h : ∀ x, wpStill P l.toArray (ext W x) (fun a' => wpList P l.toArray Q (l.drop n) a' (ext W x)) (l.take n) a) : (Code.region id l.toArray true).wp P Q a W := by
  refine wp_region_still_tail n hm hB ?_
  have := h ⟨[], W.drawn + 1⟩
  have e : ext W ⟨[], W.drawn + 1⟩ = { W with drawn := W.drawn + 1 } := by simp [ext]
  rw [e] at this
  exact this

theorem lift_ext {p : World → Prop} {W : World} (h : ∀ x, p (ext W x)) (x : Ext) : ∀ y, p (ext (ext W x) y) := fun y => by
  obtain ⟨z, hz⟩ := ext_ext W x y
  rw [hz]
  exact h z

theorem find_mem {l : List Nd} (ha : Apart l) {n : Nd} (hn : n ∈ l) : find l n.s n.g = some n.b := by
  unfold find
  cases hf : l.find? (fun m => m.s == n.s && m.g == n.g) with
  | none => have := List.find?_eq_none.1 hf n hn; simp at this
  | some m =>
    have h1 := List.find?_some hf
    simp only [Bool.and_eq_true, beq_iff_eq] at h1
    have : m = n := ha.eq (List.mem_of_find?_eq_some hf) hn h1
    rw [this]; rfl

set_option maxHeartbeats 400000 in
theorem next_last {B M : Nat} {pre : List Nd} {n : Nd} {w : World} (h : IsL w B M (pre ++ [n])) :
    Calls Try.prog 27 #[.pointer (some ⟨B, 0, none⟩), ky n.s n.g] w fun e w' => e = .returned (.tuple #[ky 0 0, .bool false]) ∧ Below w.heap.size w w' := by
  have hm : n ∈ pre ++ [n] := by simp
  have hf := find_mem h.ap hm
  have hwf := h.mp.1 n hm
  obtain ⟨W, hW⟩ : ∃ W, W = (w.alloc (.cells #[.int .i64 n.s, .int .u64 n.g] 29)).alloc (.cells #[.int .i64 0, .int .u64 0] 29) := ⟨_, rfl⟩
  have hbW : Below w.heap.size w W := by rw [hW]; exact (below_alloc w _).alloc (by simp) _
  have hx : ∀ x, IsL (ext W x) B M (pre ++ [n]) := fun x => h.below (hbW.trans ((below_ext W x).mono hbW.size))
  have hc : ∀ x, (ext W x).cell? ⟨B, 0, none⟩ = some (.map (some M)) := fun x => cell_of_block (hx x).bl rfl
  have hn : ∀ x, (ext W x).cell? ⟨n.b, 2, none⟩ = some (.pointer none) := fun x => cell_of_block (hx x).ch.mid rfl
  have hl : ∀ x, (Instr.lookup 65 (.map (some M)) (ky n.s n.g) false).run Try.prog (ext W x) = .ok (.pointer (some ⟨n.b, 0, none⟩)) (ext W x) := fun x => by
    have := (hx x).look hwf
    rw [hf] at this
    exact this
  have hk1 : ∀ x, (ext W x).cell? ⟨w.heap.size, 0, none⟩ = some (.int .i64 n.s) ∧ (ext W x).cell? ⟨w.heap.size, 1, none⟩ = some (.int .u64 n.g) := fun x => by
    have hs : w.heap.size < W.heap.size := by rw [hW]; simp; omega
    have e : ∀ j, (ext W x).cell? ⟨w.heap.size, j, none⟩ = W.cell? ⟨w.heap.size, j, none⟩ := fun j => (below_ext W x).cell hs
    rw [e, e, hW]
    constructor <;> simp
  have hr : ∀ x, (ext W x).heap[w.heap.size + 1]? = some (.cells #[.int .i64 0, .int .u64 0] 29 (0, 0)) := fun x => by
    rw [(below_ext W x).block _ (by rw [hW]; simp), hW]
    have := (heap_alloc (w.alloc (.cells #[.int .i64 n.s, .int .u64 n.g] 29)) (.cells #[.int .i64 0, .int .u64 0] 29)).1
    simpa using this
  have hr0 := fun x => cell_of_block (j := 0) (hr x) rfl
  have hr1 := fun x => cell_of_block (j := 1) (hr x) rfl
  have hf0 := fun x => frozen_of_block (j := 0) (hr x)
  have hf1 := fun x => frozen_of_block (j := 1) (hr x)
  have hz := fun x => lt_of_block (hr x)
  have hk0 := fun x => (hk1 x).1
  have hk2 := fun x => (hk1 x).2
  have hH : ∀ x, Calls Try.prog 16 #[.pointer (some ⟨B, 0, none⟩), ky n.s n.g] (ext W x) fun e w'' => e = .returned (.bool true) ∧ ∃ y, w'' = ext W y := fun x => by
    refine calls_ext ((has_any (hx x) hwf).mono ?_)
    rintro e w' ⟨rfl, hb⟩
    rw [hf]
    exact ⟨rfl, hb⟩
  unfold ky at *
  have HW := Lib.hid hW
  clear hk1 hx hm hwf hf h hW hr
  go_enter Try.func27, Try.ntmps27
  go_wp2_with fail
  rw [← HW.out]
  refine region_ext (by kernel_rfl) (by kernel_rfl) ?_
  repeat (go_big_quiet_step (exact hH _))
  refine wpQuiet_nil ?_
  rintro _ ⟨x, rfl⟩
  replace hr0 := hr0 x
  replace hr1 := hr1 x
  replace hf0 := hf0 x
  replace hf1 := hf1 x
  replace hz := hz x
  have hbx := hbW.trans ((below_ext W x).mono hbW.size)
  clear hc hn hl hk0 hk2 hH HW hbW
  generalize ext W x = W2 at *
  go_wp2
  refine bodyPost_ret (v := .tuple #[.agg #[.int .i64 0, .int .u64 0], .bool false]) (by simp [results, Try.results27, go_sem, hr0, hr1]) rfl ⟨rfl, ?_⟩
  exact (hbx.setCell (by simp) _).setCell (by simp) _

set_option maxHeartbeats 400000 in
theorem next_some {B M : Nat} {pre rest : List Nd} {n m : Nd} {w : World} (h : IsL w B M (pre ++ n :: m :: rest)) :
    Calls Try.prog 27 #[.pointer (some ⟨B, 0, none⟩), ky n.s n.g] w fun e w' => e = .returned (.tuple #[ky m.s m.g, .bool true]) ∧ Below w.heap.size w w' := by
  have hm : n ∈ pre ++ n :: m :: rest := by simp
  have hf := find_mem h.ap hm
  have hwf := h.mp.1 n hm
  obtain ⟨W, hW⟩ : ∃ W, W = (w.alloc (.cells #[.int .i64 n.s, .int .u64 n.g] 29)).alloc (.cells #[.int .i64 0, .int .u64 0] 29) := ⟨_, rfl⟩
  have hbW : Below w.heap.size w W := by rw [hW]; exact (below_alloc w _).alloc (by simp) _
  have hx : ∀ x, IsL (ext W x) B M (pre ++ n :: m :: rest) := fun x => h.below (hbW.trans ((below_ext W x).mono hbW.size))
  have hc : ∀ x, (ext W x).cell? ⟨B, 0, none⟩ = some (.map (some M)) := fun x => cell_of_block (hx x).bl rfl
  have hn : ∀ x, (ext W x).cell? ⟨n.b, 2, none⟩ = some (.pointer (some ⟨m.b, 0, none⟩)) := fun x => cell_of_block (hx x).ch.mid rfl
  have hm0 : ∀ x, (ext W x).cell? ⟨m.b, 0, none⟩ = some (.int .i64 m.s) := fun x => by
    obtain ⟨_, _, hh⟩ := (hx x).ch.at (n := m) (by simp)
    exact cell_of_block hh rfl
  have hm1 : ∀ x, (ext W x).cell? ⟨m.b, 1, none⟩ = some (.int .u64 m.g) := fun x => by
    obtain ⟨_, _, hh⟩ := (hx x).ch.at (n := m) (by simp)
    exact cell_of_block hh rfl
  have hl : ∀ x, (Instr.lookup 65 (.map (some M)) (ky n.s n.g) false).run Try.prog (ext W x) = .ok (.pointer (some ⟨n.b, 0, none⟩)) (ext W x) := fun x => by
    have := (hx x).look hwf
    rw [hf] at this
    exact this
  have hk1 : ∀ x, (ext W x).cell? ⟨w.heap.size, 0, none⟩ = some (.int .i64 n.s) ∧ (ext W x).cell? ⟨w.heap.size, 1, none⟩ = some (.int .u64 n.g) := fun x => by
    have hs : w.heap.size < W.heap.size := by rw [hW]; simp; omega
    have e : ∀ j, (ext W x).cell? ⟨w.heap.size, j, none⟩ = W.cell? ⟨w.heap.size, j, none⟩ := fun j => (below_ext W x).cell hs
    rw [e, e, hW]
    constructor <;> simp
  have hr : ∀ x, (ext W x).heap[w.heap.size + 1]? = some (.cells #[.int .i64 0, .int .u64 0] 29 (0, 0)) := fun x => by
    rw [(below_ext W x).block _ (by rw [hW]; simp), hW]
    have := (heap_alloc (w.alloc (.cells #[.int .i64 n.s, .int .u64 n.g] 29)) (.cells #[.int .i64 0, .int .u64 0] 29)).1
    simpa using this
  have hr0 := fun x => cell_of_block (j := 0) (hr x) rfl
  have hr1 := fun x => cell_of_block (j := 1) (hr x) rfl
  have hf0 := fun x => frozen_of_block (j := 0) (hr x)
  have hf1 := fun x => frozen_of_block (j := 1) (hr x)
  have hz := fun x => lt_of_block (hr x)
  have hk0 := fun x => (hk1 x).1
  have hk2 := fun x => (hk1 x).2
  have hH : ∀ x, Calls Try.prog 16 #[.pointer (some ⟨B, 0, none⟩), ky n.s n.g] (ext W x) fun e w'' => e = .returned (.bool true) ∧ ∃ y, w'' = ext W y := fun x => by
    refine calls_ext ((has_any (hx x) hwf).mono ?_)
    rintro e w' ⟨rfl, hb⟩
    rw [hf]
    exact ⟨rfl, hb⟩
  unfold ky at *
  have HW := Lib.hid hW
  clear hk1 hx hm hwf hf h hW hr
  go_enter Try.func27, Try.ntmps27
  go_wp2_with fail
  rw [← HW.out]
  refine region_ext (by kernel_rfl) (by kernel_rfl) ?_
  repeat (go_big_quiet_step (exact hH _))
  refine wpQuiet_nil ?_
  rintro _ ⟨x, rfl⟩
  go_wp2_with fail
  replace hr0 := lift_ext (p := fun W => W.cell? _ = _) hr0 x
  replace hr1 := lift_ext (p := fun W => W.cell? _ = _) hr1 x
  replace hf0 := lift_ext (p := fun W => W.frozen? _ = _) hf0 x
  replace hf1 := lift_ext (p := fun W => W.frozen? _ = _) hf1 x
  replace hz := lift_ext (p := fun W => _ < W.heap.size) hz x
  replace hc := lift_ext (p := fun W => W.cell? _ = _) hc x
  replace hn := lift_ext (p := fun W => W.cell? _ = _) hn x
  replace hm0 := lift_ext (p := fun W => W.cell? _ = _) hm0 x
  replace hm1 := lift_ext (p := fun W => W.cell? _ = _) hm1 x
  replace hk0 := lift_ext (p := fun W => W.cell? _ = _) hk0 x
  replace hk2 := lift_ext (p := fun W => W.cell? _ = _) hk2 x
  replace hl := lift_ext (p := fun W => Sem.run Try.prog _ W = .ok _ W) hl x
  have hbx := hbW.trans ((below_ext W x).mono hbW.size)
  clear hH HW hbW
  generalize ext W x = W2 at *
  refine region_tail 12 (by kernel_rfl) (by kernel_rfl) (fun y => ?_)
  simp only [List.take_succ_cons, List.take_zero, List.drop_succ_cons, List.drop_zero]
  repeat still_step
  refine wpStill_nil ?_
  replace hr0 := hr0 y
  replace hr1 := hr1 y
  replace hf0 := hf0 y
  replace hf1 := hf1 y
  replace hz := hz y
  replace hbx := hbx.trans ((below_ext W2 y).mono hbx.size)
  clear hc hn hl hk0 hk2 hm0 hm1
  generalize ext W2 y = W3 at *
  go_wp2
  refine bodyPost_ret (v := .tuple #[.agg #[.int .i64 m.s, .int .u64 m.g], .bool true]) (by simp [results, Try.results27, go_sem, hr0, hr1]) rfl ⟨rfl, ?_⟩
  exact (hbx.setCell (by simp) _).setCell (by simp) _

end Go.Proofs.Ytijiffgfodlepaa
