/- The contract of Push. -/
import Derived.Test.YtijiffgfodlepaaC
namespace Go.Proofs.Ytijiffgfodlepaa
open Go.RowKit Go.MapKept Go.BigFrame

theorem set_same {w : World} {b j : Nat} {cs : Array Value} {t : TypeId} {f : Nat × Nat} (v : Value) (h : w.heap[b]? = some (.cells cs t f)) :
    (w.setCell ⟨b, j, none⟩ v).heap[b]? = some (.cells (cs.setIfInBounds j v) t f) := by
  simp [World.setCell, Array.getElem?_modify, h]

theorem set_other {w : World} {a : Addr} {b : Nat} (v : Value) (h : b ≠ a.block) : (w.setCell a v).heap[b]? = w.heap[b]? := Below.heap_setCell w a v b h

theorem put_same (W : World) {M : Nat} (o : Obj) (hM : M < W.heap.size) : (ChangeMaps.setBlock W M o).heap[M]? = some o := by simp [ChangeMaps.setBlock, hM]
theorem put_other (W : World) {M k : Nat} (o : Obj) (hk : k ≠ M) : (ChangeMaps.setBlock W M o).heap[k]? = W.heap[k]? := by
  simp only [ChangeMaps.setBlock, Array.getElem?_setIfInBounds]
  rw [if_neg (Ne.symm hk)]
theorem Fr.put {o : List Nat} {a b : World} (h : Fr o a b) {M : Nat} (ob : Obj) (hp : M ∈ o ∨ a.heap.size ≤ M) : Fr o a (ChangeMaps.setBlock b M ob) :=
  ⟨h.os, h.tape, h.output, by simp [ChangeMaps.setBlock]; exact h.size, fun i hi hn => by
    rw [put_other b ob (fun e => by
      subst e
      rcases hp with h1 | h1
      · exact hn h1
      · omega)]
    exact h.block i hi hn⟩

/-- A handle that is in. -/
theorem push_there {B M : Nat} {l : List Nd} {w : World} (h : IsL w B M l) {n : Nd} (hn : n ∈ l) (front : Bool) :
    Calls Try.prog 17 #[.pointer (some ⟨B, 0, none⟩), ky n.s n.g, .bool front] w fun e w' => e = .returned (.int .i64 7) ∧ Below w.heap.size w w' := by
  have hf := find_mem h.ap hn
  have hwf := h.mp.1 n hn
  obtain ⟨W, hW⟩ : ∃ W, W = w.alloc (.cells #[.int .i64 n.s, .int .u64 n.g] 29) := ⟨_, rfl⟩
  have hbW : Below w.heap.size w W := by rw [hW]; exact below_alloc w _
  have hc0 : w.cell? ⟨B, 0, none⟩ = some (.map (some M)) := cell_of_block h.bl rfl
  have hBlt := lt_of_block h.bl
  have hx : ∀ x, IsL (ext W x) B M l := fun x => h.below (hbW.trans ((below_ext W x).mono hbW.size))
  have hc : ∀ x, (ext W x).cell? ⟨B, 0, none⟩ = some (.map (some M)) := fun x => cell_of_block (hx x).bl rfl
  have hl : ∀ x, (Instr.lookup 65 (.map (some M)) (ky n.s n.g) false).run Try.prog (ext W x) = .ok (.pointer (some ⟨n.b, 0, none⟩)) (ext W x) := fun x => by
    have := (hx x).look hwf
    rw [hf] at this
    exact this
  have hk1 : ∀ x, (ext W x).heap[w.heap.size]? = some (.cells #[.int .i64 n.s, .int .u64 n.g] 29 (0, 0)) := fun x => by
    rw [(below_ext W x).block _ (by rw [hW]; simp), hW]
    exact (heap_alloc w _).1
  have hk0 := fun x => cell_of_block (j := 0) (hk1 x) rfl
  have hk2 := fun x => cell_of_block (j := 1) (hk1 x) rfl
  have hem := fun wx => run_eql_map_nil (P := Try.prog) wx 65 29 66 (some M) Try.underlying65
  unfold ky at *
  have HW := Lib.hid hW
  clear hk1 hx hwf hf h hW
  go_enter Try.func17, Try.ntmps17
  go_wp2_with fail
  rw [← HW.out]
  refine region_ext (by kernel_rfl) (by kernel_rfl) ?_
  repeat (go_big_quiet_step (fail))
  refine wpQuiet_nil ?_
  rintro _ ⟨x, rfl⟩
  have hbx := hbW.trans ((below_ext W x).mono hbW.size)
  clear hc hl hk0 hk2 HW hbW hem hc0
  generalize ext W x = W2 at *
  go_wp2
  go_ret
  exact ⟨rfl, hbx⟩

theorem find_not {l : List Nd} {s g : Int} (h : ∀ m ∈ l, ¬ m.is s g) : find l s g = none := by
  unfold find
  rw [List.find?_eq_none.2 (fun m hm hh => h m hm (by simpa [Nd.is] using hh))]
  rfl

/-- The first handle. -/
theorem push_first {B M : Nat} {s g : Int} {w : World} (h : IsL w B M []) (hwf : Wf s g) (front : Bool) :
    Calls Try.prog 17 #[.pointer (some ⟨B, 0, none⟩), ky s g, .bool front] w fun e w' => e = .returned (.int .i64 0) ∧ ∃ b, w.heap.size ≤ b ∧ IsL w' B M [⟨s, g, b⟩] ∧ Fr (own B M []) w w' := by
  have hf : find [] s g = none := rfl
  obtain ⟨W, hW⟩ : ∃ W, W = w.alloc (.cells #[.int .i64 s, .int .u64 g] 29) := ⟨_, rfl⟩
  have hbW : Below w.heap.size w W := by rw [hW]; exact below_alloc w _
  have hc0 : w.cell? ⟨B, 0, none⟩ = some (.map (some M)) := cell_of_block h.bl rfl
  have hBlt := lt_of_block h.bl
  have hx : ∀ x, IsL (ext W x) B M [] := fun x => h.below (hbW.trans ((below_ext W x).mono hbW.size))
  have hc : ∀ x, (ext W x).cell? ⟨B, 0, none⟩ = some (.map (some M)) := fun x => cell_of_block (hx x).bl rfl
  have hl : ∀ x, (Instr.lookup 65 (.map (some M)) (ky s g) false).run Try.prog (ext W x) = .ok (.pointer none) (ext W x) := fun x => by
    have := (hx x).look hwf
    rw [hf] at this
    exact this
  have hk1 : ∀ x, (ext W x).heap[w.heap.size]? = some (.cells #[.int .i64 s, .int .u64 g] 29 (0, 0)) := fun x => by
    rw [(below_ext W x).block _ (by rw [hW]; simp), hW]
    exact (heap_alloc w _).1
  have hk0 := fun x => cell_of_block (j := 0) (hk1 x) rfl
  have hk2 := fun x => cell_of_block (j := 1) (hk1 x) rfl
  have hem := fun wx => run_eql_map_nil (P := Try.prog) wx 65 29 66 (some M) Try.underlying65
  have HX := Lib.hid hx
  have HK := Lib.hid hk1
  have HF := Lib.hid hwf
  have HW := Lib.hid hW
  unfold ky at *
  clear hk1 hx hwf hf h hW
  go_enter Try.func17, Try.ntmps17
  go_wp2_with fail
  rw [← HW.out]
  refine region_ext (by kernel_rfl) (by kernel_rfl) ?_
  repeat (go_big_quiet_step (fail))
  refine wpQuiet_nil ?_
  rintro _ ⟨x, rfl⟩
  have hbx := hbW.trans ((below_ext W x).mono hbW.size)
  have hx := HX.out x
  have hkx := HK.out x
  clear hc hl hk0 hk2 HW hbW hem HX HK
  generalize ext W x = W2 at *
  have hs2 := lt_of_block hkx
  have hk0 := cell_of_block (j := 0) hkx rfl
  have hk2 := cell_of_block (j := 1) hkx rfl
  obtain ⟨W3, hW3⟩ : ∃ W3, W3 = W2.alloc (.cells #[.int .i64 s, .int .u64 g, .pointer none, .pointer none] 70) := ⟨_, rfl⟩
  have hb3 : Below W2.heap.size W2 W3 := by rw [hW3]; exact below_alloc W2 _
  have hx3 : ∀ y, IsL (ext W3 y) B M [] := fun y => hx.below (hb3.trans ((below_ext W3 y).mono hb3.size))
  have hc3 : ∀ y, (ext W3 y).cell? ⟨B, 0, none⟩ = some (.map (some M)) := fun y => cell_of_block (hx3 y).bl rfl
  have hkk : ∀ y, (ext W3 y).heap[w.heap.size]? = some (.cells #[.int .i64 s, .int .u64 g] 29 (0, 0)) := fun y => by
    rw [(hb3.trans ((below_ext W3 y).mono hb3.size)).block _ hs2]; exact hkx
  have hk3 := fun y => cell_of_block (j := 0) (hkk y) rfl
  have hk4 := fun y => cell_of_block (j := 1) (hkk y) rfl
  have hn3 : W3.heap[W2.heap.size]? = some (.cells #[.int .i64 s, .int .u64 g, .pointer none, .pointer none] 70 (0, 0)) := by rw [hW3]; exact (heap_alloc W2 _).1
  obtain ⟨o, hup, hafter⟩ := (hx3 ⟨[], 0⟩).mp.put (n := ⟨s, g, W2.heap.size⟩) HF.out (by simp)
  have hM3 : ∀ y y', (ext W3 y).heap[M]? = (ext W3 y').heap[M]? := fun y y' => by
    have hm : M < W3.heap.size := by have := (hx.mp).lt; have := hb3.size; omega
    rw [(below_ext W3 y).block _ hm, (below_ext W3 y').block _ hm]
  have hup3 : ∀ y, (Instr.mapUpdate 65 (.map (some M)) (.agg #[.int .i64 s, .int .u64 g]) (.pointer (some ⟨W2.heap.size, 0, none⟩))).run Try.prog (ext W3 y) = .ok () (ChangeMaps.setBlock (ext W3 y) M o) := fun y => hup _ (hM3 _ _)
  have HW3 := Lib.hid hW3
  have HX := Lib.hid hx
  have HX3 := Lib.hid hx3
  have HN3 := Lib.hid hn3
  have HA := Lib.hid hafter
  clear hkk hx3 hx hW3 hup hn3 hafter hM3 hkx
  go_wp2_with fail
  rw [← HW3.out]
  refine region_tail 6 (by kernel_rfl) (by kernel_rfl) (fun y => ?_)
  simp only [List.take_succ_cons, List.take_zero, List.drop_succ_cons, List.drop_zero]
  repeat still_step
  refine wpStill_nil ?_
  have hn4 : (ext W3 y).heap[W2.heap.size]? = some (.cells #[.int .i64 s, .int .u64 g, .pointer none, .pointer none] 70 (0, 0)) := by
    rw [(below_ext W3 y).block _ (lt_of_block HN3.out)]; exact HN3.out
  have hX4 := HX3.out y
  have hb4 : Below w.heap.size w (ext W3 y) := (hbx.trans (hb3.mono hbx.size)).trans ((below_ext W3 y).mono (Nat.le_trans hbx.size hb3.size))
  have hle := hbx.size
  obtain ⟨W5, hW5⟩ : ∃ W5, W5 = ChangeMaps.setBlock (ext W3 y) M o := ⟨_, rfl⟩
  replace hup3 := hup3 y
  rw [← hW5] at hup3
  have hnd := hX4.nd
  simp at hnd
  have hnM : W2.heap.size ≠ M := fun e => by have := (HX.out.mp).lt; omega
  have hnB : W2.heap.size ≠ B := fun e => by have := lt_of_block HX.out.bl; omega
  have hB5 : W5.heap[B]? = some (.cells #[.map (some M), .pointer none, .pointer none] 68 (0, 0)) := by rw [hW5, put_other _ _ hnd]; exact hX4.bl
  have hn5 : W5.heap[W2.heap.size]? = some (.cells #[.int .i64 s, .int .u64 g, .pointer none, .pointer none] 70 (0, 0)) := by rw [hW5, put_other _ _ hnM]; exact hn4
  have hM5 : W5.heap[M]? = some o := by rw [hW5]; exact put_same _ o hX4.mp.lt
  have hfr : Fr (own B M []) w W5 := by rw [hW5]; exact (Fr.of_below hb4 _).put o (.inl (by simp [own]))
  have c1 := cell_of_block (j := 1) hB5 rfl
  have c2 := cell_of_block (j := 2) hB5 rfl
  have f1 := frozen_of_block (j := 1) hB5
  have f2 := frozen_of_block (j := 2) hB5
  have hA := HA.out
  have HB5 := Lib.hid hB5
  have HN5 := Lib.hid hn5
  have HM5 := Lib.hid hM5
  have HA := Lib.hid hA
  clear hA hB5 hn5 hM5 hW5 hX4 hn4 HN3 HX3 HX hk3 hk4 hc3 hk0 hk2 HW3
  go_wp2_with fail
  go_ret
  refine ⟨rfl, W2.heap.size, hle, ?_, (hfr.setCell _ _ (.inl (by simp [own]))).setCell _ _ (.inl (by simp [own]))⟩
  have e1 := set_same (j := 1) (.pointer (some ⟨W2.heap.size, 0, none⟩)) HB5.out
  have e2 := set_same (j := 2) (.pointer (some ⟨W2.heap.size, 0, none⟩)) e1
  refine ⟨e2, HA.out _ ?_, ⟨?_, trivial⟩, ?_, ?_⟩
  · rw [set_other _ (Ne.symm hnd), set_other _ (Ne.symm hnd)]; exact HM5.out
  · rw [set_other _ hnB, set_other _ hnB]; exact HN5.out
  · simp [Apart]
  · simp only [List.map_cons, List.map_nil, List.nodup_cons, List.mem_cons, List.not_mem_nil, or_false, not_false_eq_true, List.nodup_nil, and_true]
    exact ⟨by rintro (e | e); exact hnd e; exact hnB e.symm, fun e => hnM e.symm⟩

end Go.Proofs.Ytijiffgfodlepaa
