/- The contract of Push at a list that holds something. -/
import Derived.Test.YtijiffgfodlepaaD
namespace Go.Proofs.Ytijiffgfodlepaa
open Go.RowKit Go.MapKept Go.BigFrame

/-- A handle ahead of all. -/
theorem push_front {B M : Nat} {s g : Int} {w : World} {z : Nd} {r : List Nd} (h : IsL w B M (z :: r)) (hnot : ∀ m ∈ z :: r, ¬ m.is s g) (hwf : Wf s g) :
    Calls Try.prog 17 #[.pointer (some ⟨B, 0, none⟩), ky s g, .bool true] w fun e w' => e = .returned (.int .i64 0) ∧ ∃ b, w.heap.size ≤ b ∧ IsL w' B M (⟨s, g, b⟩ :: z :: r) ∧ Fr (own B M (z :: r)) w w' := by
  have hf : find (z :: r) s g = none := find_not hnot
  obtain ⟨W, hW⟩ : ∃ W, W = w.alloc (.cells #[.int .i64 s, .int .u64 g] 29) := ⟨_, rfl⟩
  have hbW : Below w.heap.size w W := by rw [hW]; exact below_alloc w _
  have hc0 : w.cell? ⟨B, 0, none⟩ = some (.map (some M)) := cell_of_block h.bl rfl
  have hBlt := lt_of_block h.bl
  have hx : ∀ x, IsL (ext W x) B M (z :: r) := fun x => h.below (hbW.trans ((below_ext W x).mono hbW.size))
  have hc : ∀ x, (ext W x).cell? ⟨B, 0, none⟩ = some (.map (some M)) := fun x => cell_of_block (hx x).bl rfl
  have hl : ∀ x, (Instr.lookup 65 (.map (some M)) (ky s g) false).run Try.prog (ext W x) = .ok (.pointer none) (ext W x) := fun x => by
    have := (hx x).look hwf
    rw [hf] at this
    exact this
  have hk1 : ∀ x, (ext W x).heap[w.heap.size]? = some (.cells #[.int .i64 s, .int .u64 g] 29 (0, 0)) := fun x => by
    rw [(below_ext W x).block _ (by rw [hW]; simp), hW]
    exact (heap_alloc w _).1
  have hk0 := fun x => cell_of_block (j := 0) (hk1 x) rfl
  have hk2 := fun x => cell_of_block (j := 1) (hk1 x) rfl
  have hem := fun wx => run_eql_map_nil (P := Try.prog) wx 65 29 66 (some M) Try.underlying65
  have HX := Lib.hid hx
  have HK := Lib.hid hk1
  have HF := Lib.hid hwf
  have HNOT := Lib.hid hnot
  have HW := Lib.hid hW
  unfold ky at *
  clear hk1 hx hwf hf h hW hnot
  go_enter Try.func17, Try.ntmps17
  go_wp2_with fail
  rw [← HW.out]
  refine region_ext (by kernel_rfl) (by kernel_rfl) ?_
  repeat (go_big_quiet_step (fail))
  refine wpQuiet_nil ?_
  rintro _ ⟨x, rfl⟩
  have hbx := hbW.trans ((below_ext W x).mono hbW.size)
  have hx := HX.out x
  have hkx := HK.out x
  clear hc hl hk0 hk2 HW hbW hem HX HK
  generalize ext W x = W2 at *
  have hs2 := lt_of_block hkx
  have hk0 := cell_of_block (j := 0) hkx rfl
  have hk2 := cell_of_block (j := 1) hkx rfl
  obtain ⟨W3, hW3⟩ : ∃ W3, W3 = W2.alloc (.cells #[.int .i64 s, .int .u64 g, .pointer none, .pointer none] 70) := ⟨_, rfl⟩
  have hb3 : Below W2.heap.size W2 W3 := by rw [hW3]; exact below_alloc W2 _
  have hx3 : ∀ y, IsL (ext W3 y) B M (z :: r) := fun y => hx.below (hb3.trans ((below_ext W3 y).mono hb3.size))
  have hc3 : ∀ y, (ext W3 y).cell? ⟨B, 0, none⟩ = some (.map (some M)) := fun y => cell_of_block (hx3 y).bl rfl
  have hkk : ∀ y, (ext W3 y).heap[w.heap.size]? = some (.cells #[.int .i64 s, .int .u64 g] 29 (0, 0)) := fun y => by
    rw [(hb3.trans ((below_ext W3 y).mono hb3.size)).block _ hs2]; exact hkx
  have hk3 := fun y => cell_of_block (j := 0) (hkk y) rfl
  have hk4 := fun y => cell_of_block (j := 1) (hkk y) rfl
  have hn3 : W3.heap[W2.heap.size]? = some (.cells #[.int .i64 s, .int .u64 g, .pointer none, .pointer none] 70 (0, 0)) := by rw [hW3]; exact (heap_alloc W2 _).1
  obtain ⟨o, hup, hafter⟩ := (hx3 ⟨[], 0⟩).mp.put (n := ⟨s, g, W2.heap.size⟩) HF.out HNOT.out
  have hM3 : ∀ y y', (ext W3 y).heap[M]? = (ext W3 y').heap[M]? := fun y y' => by
    have hm : M < W3.heap.size := by have := (hx.mp).lt; have := hb3.size; omega
    rw [(below_ext W3 y).block _ hm, (below_ext W3 y').block _ hm]
  have hup3 : ∀ y, (Instr.mapUpdate 65 (.map (some M)) (.agg #[.int .i64 s, .int .u64 g]) (.pointer (some ⟨W2.heap.size, 0, none⟩))).run Try.prog (ext W3 y) = .ok () (ChangeMaps.setBlock (ext W3 y) M o) := fun y => hup _ (hM3 _ _)
  have HW3 := Lib.hid hW3
  have HX := Lib.hid hx
  have HX3 := Lib.hid hx3
  have HN3 := Lib.hid hn3
  have HA := Lib.hid hafter
  clear hkk hx3 hx hW3 hup hn3 hafter hM3 hkx
  go_wp2_with fail
  rw [← HW3.out]
  refine region_tail 6 (by kernel_rfl) (by kernel_rfl) (fun y => ?_)
  simp only [List.take_succ_cons, List.take_zero, List.drop_succ_cons, List.drop_zero]
  repeat still_step
  refine wpStill_nil ?_
  have hn4 : (ext W3 y).heap[W2.heap.size]? = some (.cells #[.int .i64 s, .int .u64 g, .pointer none, .pointer none] 70 (0, 0)) := by
    rw [(below_ext W3 y).block _ (lt_of_block HN3.out)]; exact HN3.out
  have hX4 := HX3.out y
  have hb4 : Below w.heap.size w (ext W3 y) := (hbx.trans (hb3.mono hbx.size)).trans ((below_ext W3 y).mono (Nat.le_trans hbx.size hb3.size))
  have hle := hbx.size
  obtain ⟨W5, hW5⟩ : ∃ W5, W5 = ChangeMaps.setBlock (ext W3 y) M o := ⟨_, rfl⟩
  replace hup3 := hup3 y
  rw [← hW5] at hup3
  have hnd := hX4.nd
  have hap := hX4.ap
  have hch := hX4.ch
  simp only [List.map_cons, List.nodup_cons, List.mem_cons, not_or] at hnd
  have hnM : W2.heap.size ≠ M := fun e => by have := (HX.out.mp).lt; omega
  have hnB : W2.heap.size ≠ B := fun e => by have := lt_of_block HX.out.bl; omega
  have hlt := HX.out.ch.lt
  have hnz : W2.heap.size ≠ z.b := fun e => by have := hlt z (by simp); omega
  have hB5 : W5.heap[B]? = some (.cells #[.map (some M), .pointer (some ⟨z.b, 0, none⟩), pt (tl (z :: r))] 68 (0, 0)) := by rw [hW5, put_other _ _ hnd.1.1]; exact hX4.bl
  have hn5 : W5.heap[W2.heap.size]? = some (.cells #[.int .i64 s, .int .u64 g, .pointer none, .pointer none] 70 (0, 0)) := by rw [hW5, put_other _ _ hnM]; exact hn4
  have hz5 : W5.heap[z.b]? = some (.cells #[.int .i64 z.s, .int .u64 z.g, pt (hd r), .pointer none] 70 (0, 0)) := by rw [hW5, put_other _ _ (fun e => hnd.2.1.1 e.symm)]; exact hch.1
  have hM5 : W5.heap[M]? = some o := by rw [hW5]; exact put_same _ o hX4.mp.lt
  have hr5 : Chain W5 (some z.b) r := hch.2.heap fun m hm => by rw [hW5]; exact put_other _ _ (fun e => hnd.2.1.2 (List.mem_map.2 ⟨m, hm, e⟩))
  have hfr : Fr (own B M (z :: r)) w W5 := by rw [hW5]; exact (Fr.of_below hb4 _).put o (.inl (by simp [own]))
  have c1 := cell_of_block (j := 1) hB5 rfl
  have f1 := frozen_of_block (j := 1) hB5
  have d2 := cell_of_block (j := 2) hn5 rfl
  have d3 := cell_of_block (j := 3) hn5 rfl
  have e2 := frozen_of_block (j := 2) hn5
  have e3 := frozen_of_block (j := 3) hn5
  have z3 := cell_of_block (j := 3) hz5 rfl
  have y3 := frozen_of_block (j := 3) hz5
  have hA := HA.out
  have HB5 := Lib.hid hB5
  have HN5 := Lib.hid hn5
  have HM5 := Lib.hid hM5
  have HZ5 := Lib.hid hz5
  have HR5 := Lib.hid hr5
  have HA := Lib.hid hA
  have HND := Lib.hid hnd
  have HLT := Lib.hid hlt
  have HAP := Lib.hid hap
  have hBz : B ≠ z.b := hnd.1.2.1
  have hnB' := hnB.symm
  have hnz' := hnz.symm
  have hBz' := hBz.symm
  clear hA hB5 hn5 hM5 hW5 hX4 hn4 HN3 HX3 HX hk3 hk4 hc3 hk0 hk2 HW3 hnd hlt hap hz5 hr5 hch
  go_wp2_with fail
  go_region
  go_wp2
  go_ret
  refine ⟨rfl, W2.heap.size, hle, ?_, (((hfr.setCell _ _ (.inr hle)).setCell _ _ (.inl (by simp [own]))).setCell _ _ (.inl (by simp [own]))).drew⟩
  have s1 : (((W5.setCell ⟨W2.heap.size, 2, none⟩ (.pointer (some ⟨z.b, 0, none⟩))).setCell ⟨z.b, 3, none⟩ (.pointer (some ⟨W2.heap.size, 0, none⟩))).setCell ⟨B, 1, none⟩ (.pointer (some ⟨W2.heap.size, 0, none⟩))).heap[B]? = _ :=
    set_same _ ((set_other _ hBz).trans ((set_other _ hnB').trans HB5.out))
  have s2 : (((W5.setCell ⟨W2.heap.size, 2, none⟩ (.pointer (some ⟨z.b, 0, none⟩))).setCell ⟨z.b, 3, none⟩ (.pointer (some ⟨W2.heap.size, 0, none⟩))).setCell ⟨B, 1, none⟩ (.pointer (some ⟨W2.heap.size, 0, none⟩))).heap[W2.heap.size]? = _ :=
    (set_other _ hnB).trans ((set_other _ hnz).trans (set_same _ HN5.out))
  have s3 : (((W5.setCell ⟨W2.heap.size, 2, none⟩ (.pointer (some ⟨z.b, 0, none⟩))).setCell ⟨z.b, 3, none⟩ (.pointer (some ⟨W2.heap.size, 0, none⟩))).setCell ⟨B, 1, none⟩ (.pointer (some ⟨W2.heap.size, 0, none⟩))).heap[z.b]? = _ :=
    (set_other _ hBz').trans (set_same _ ((set_other _ hnz').trans HZ5.out))
  obtain ⟨⟨n1, n2, n3⟩, ⟨n4, n5⟩, n6, n7⟩ := HND.out
  refine ⟨s1, HA.out _ ?_, ⟨s2, s3, ?_⟩, ?_, ?_⟩
  · exact (set_other _ (Ne.symm n1)).trans ((set_other _ n4).trans ((set_other _ (Ne.symm hnM)).trans HM5.out))
  · refine HR5.out.heap fun m hm => ?_
    have g1 : m.b ≠ B := fun e => n3 (List.mem_map.2 ⟨m, hm, e⟩)
    have g2 : m.b ≠ z.b := fun e => n6 (List.mem_map.2 ⟨m, hm, e⟩)
    have g3 : m.b ≠ W2.heap.size := fun e => by have := HLT.out m (by simp [hm]); omega
    exact (set_other _ g1).trans ((set_other _ g2).trans (set_other _ g3))
  · exact List.pairwise_cons.2 ⟨fun m hm e => HNOT.out m hm ⟨e.1.symm, e.2.symm⟩, HAP.out⟩
  · have g : W2.heap.size ∉ (z :: r).map Nd.b := fun e => by
      obtain ⟨m, hm, e⟩ := List.mem_map.1 e
      have := HLT.out m hm; omega
    have g' : W2.heap.size ∉ r.map Nd.b := fun e => g (by simp [List.mem_map] at e ⊢; exact .inr e)
    simp only [List.map_cons, List.nodup_cons, List.mem_cons, not_or]
    exact ⟨⟨n1, hnB', n2, n3⟩, ⟨Ne.symm hnM, n4, n5⟩, ⟨hnz, g'⟩, n6, n7⟩

end Go.Proofs.Ytijiffgfodlepaa
