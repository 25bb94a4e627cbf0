/- The contract of Push at the other end of a list that holds something. -/
import Derived.Test.YtijiffgfodlepaaE
namespace Go.Proofs.Ytijiffgfodlepaa
open Go.RowKit Go.MapKept Go.BigFrame

theorem Chain.snoc {w w' : World} : ∀ {r : List Nd} {z x : Nd} {pv : Option Nat} {q : Value}, Chain w pv (r ++ [z]) → (∀ m ∈ r, w'.heap[m.b]? = w.heap[m.b]?) →
    w.heap[z.b]? = some (.cells #[.int .i64 z.s, .int .u64 z.g, .pointer none, q] 70 (0, 0)) →
    w'.heap[z.b]? = some (.cells #[.int .i64 z.s, .int .u64 z.g, .pointer (some ⟨x.b, 0, none⟩), q] 70 (0, 0)) →
    w'.heap[x.b]? = some (.cells #[.int .i64 x.s, .int .u64 x.g, .pointer none, .pointer (some ⟨z.b, 0, none⟩)] 70 (0, 0)) → Chain w' pv (r ++ [z, x])
  | [], z, x, pv, q, h, _, h0, h1, h2 => by
    have e : q = pt pv := by
      have := h.1
      rw [h0] at this
      simp at this
      exact this.2
    subst e
    exact ⟨h1, h2, trivial⟩
  | m :: r, z, x, pv, q, h, hw, h0, h1, h2 => by
    refine ⟨?_, Chain.snoc h.2 (fun m' hm' => hw m' (by simp [hm'])) h0 h1 h2⟩
    have e1 : hd (r ++ [z, x]) = hd (r ++ [z]) := by cases r <;> rfl
    show w'.heap[m.b]? = some (.cells #[.int .i64 m.s, .int .u64 m.g, pt (hd (r ++ [z, x])), pt pv] 70 (0, 0))
    rw [e1, hw m (by simp)]
    exact h.1

/-- A handle behind all. -/
theorem push_back {B M : Nat} {s g : Int} {w : World} {z : Nd} {r : List Nd} (h : IsL w B M (r ++ [z])) (hnot : ∀ m ∈ r ++ [z], ¬ m.is s g) (hwf : Wf s g) :
    Calls Try.prog 17 #[.pointer (some ⟨B, 0, none⟩), ky s g, .bool false] w fun e w' => e = .returned (.int .i64 0) ∧ ∃ b, w.heap.size ≤ b ∧ IsL w' B M (r ++ [z, ⟨s, g, b⟩]) ∧ Fr (own B M (r ++ [z])) w w' := by
  have hf : find (r ++ [z]) s g = none := find_not hnot
  obtain ⟨W, hW⟩ : ∃ W, W = w.alloc (.cells #[.int .i64 s, .int .u64 g] 29) := ⟨_, rfl⟩
  have hbW : Below w.heap.size w W := by rw [hW]; exact below_alloc w _
  have hc0 : w.cell? ⟨B, 0, none⟩ = some (.map (some M)) := cell_of_block h.bl rfl
  have hBlt := lt_of_block h.bl
  have hx : ∀ x, IsL (ext W x) B M (r ++ [z]) := fun x => h.below (hbW.trans ((below_ext W x).mono hbW.size))
  have hc : ∀ x, (ext W x).cell? ⟨B, 0, none⟩ = some (.map (some M)) := fun x => cell_of_block (hx x).bl rfl
  have hl : ∀ x, (Instr.lookup 65 (.map (some M)) (ky s g) false).run Try.prog (ext W x) = .ok (.pointer none) (ext W x) := fun x => by
    have := (hx x).look hwf
    rw [hf] at this
    exact this
  have hk1 : ∀ x, (ext W x).heap[w.heap.size]? = some (.cells #[.int .i64 s, .int .u64 g] 29 (0, 0)) := fun x => by
    rw [(below_ext W x).block _ (by rw [hW]; simp), hW]
    exact (heap_alloc w _).1
  have hk0 := fun x => cell_of_block (j := 0) (hk1 x) rfl
  have hk2 := fun x => cell_of_block (j := 1) (hk1 x) rfl
  have hem := fun wx => run_eql_map_nil (P := Try.prog) wx 65 29 66 (some M) Try.underlying65
  have HX := Lib.hid hx
  have HK := Lib.hid hk1
  have HF := Lib.hid hwf
  have HNOT := Lib.hid hnot
  have HW := Lib.hid hW
  unfold ky at *
  clear hk1 hx hwf hf h hW hnot
  go_enter Try.func17, Try.ntmps17
  go_wp2_with fail
  rw [← HW.out]
  refine region_ext (by kernel_rfl) (by kernel_rfl) ?_
  repeat (go_big_quiet_step (fail))
  refine wpQuiet_nil ?_
  rintro _ ⟨x, rfl⟩
  have hbx := hbW.trans ((below_ext W x).mono hbW.size)
  have hx := HX.out x
  have hkx := HK.out x
  clear hc hl hk0 hk2 HW hbW hem HX HK
  generalize ext W x = W2 at *
  have hs2 := lt_of_block hkx
  have hk0 := cell_of_block (j := 0) hkx rfl
  have hk2 := cell_of_block (j := 1) hkx rfl
  obtain ⟨W3, hW3⟩ : ∃ W3, W3 = W2.alloc (.cells #[.int .i64 s, .int .u64 g, .pointer none, .pointer none] 70) := ⟨_, rfl⟩
  have hb3 : Below W2.heap.size W2 W3 := by rw [hW3]; exact below_alloc W2 _
  have hx3 : ∀ y, IsL (ext W3 y) B M (r ++ [z]) := fun y => hx.below (hb3.trans ((below_ext W3 y).mono hb3.size))
  have hc3 : ∀ y, (ext W3 y).cell? ⟨B, 0, none⟩ = some (.map (some M)) := fun y => cell_of_block (hx3 y).bl rfl
  have hkk : ∀ y, (ext W3 y).heap[w.heap.size]? = some (.cells #[.int .i64 s, .int .u64 g] 29 (0, 0)) := fun y => by
    rw [(hb3.trans ((below_ext W3 y).mono hb3.size)).block _ hs2]; exact hkx
  have hk3 := fun y => cell_of_block (j := 0) (hkk y) rfl
  have hk4 := fun y => cell_of_block (j := 1) (hkk y) rfl
  have hn3 : W3.heap[W2.heap.size]? = some (.cells #[.int .i64 s, .int .u64 g, .pointer none, .pointer none] 70 (0, 0)) := by rw [hW3]; exact (heap_alloc W2 _).1
  obtain ⟨o, hup, hafter⟩ := (hx3 ⟨[], 0⟩).mp.put (n := ⟨s, g, W2.heap.size⟩) HF.out HNOT.out
  have hM3 : ∀ y y', (ext W3 y).heap[M]? = (ext W3 y').heap[M]? := fun y y' => by
    have hm : M < W3.heap.size := by have := (hx.mp).lt; have := hb3.size; omega
    rw [(below_ext W3 y).block _ hm, (below_ext W3 y').block _ hm]
  have hup3 : ∀ y, (Instr.mapUpdate 65 (.map (some M)) (.agg #[.int .i64 s, .int .u64 g]) (.pointer (some ⟨W2.heap.size, 0, none⟩))).run Try.prog (ext W3 y) = .ok () (ChangeMaps.setBlock (ext W3 y) M o) := fun y => hup _ (hM3 _ _)
  have HW3 := Lib.hid hW3
  have HX := Lib.hid hx
  have HX3 := Lib.hid hx3
  have HN3 := Lib.hid hn3
  have HA := Lib.hid hafter
  clear hkk hx3 hx hW3 hup hn3 hafter hM3 hkx
  go_wp2_with fail
  rw [← HW3.out]
  refine region_tail 6 (by kernel_rfl) (by kernel_rfl) (fun y => ?_)
  simp only [List.take_succ_cons, List.take_zero, List.drop_succ_cons, List.drop_zero]
  repeat still_step
  refine wpStill_nil ?_
  have hn4 : (ext W3 y).heap[W2.heap.size]? = some (.cells #[.int .i64 s, .int .u64 g, .pointer none, .pointer none] 70 (0, 0)) := by
    rw [(below_ext W3 y).block _ (lt_of_block HN3.out)]; exact HN3.out
  have hX4 := HX3.out y
  have hb4 : Below w.heap.size w (ext W3 y) := (hbx.trans (hb3.mono hbx.size)).trans ((below_ext W3 y).mono (Nat.le_trans hbx.size hb3.size))
  have hle := hbx.size
  obtain ⟨W5, hW5⟩ : ∃ W5, W5 = ChangeMaps.setBlock (ext W3 y) M o := ⟨_, rfl⟩
  replace hup3 := hup3 y
  rw [← hW5] at hup3
  have hnd := hX4.nd
  have hap := hX4.ap
  have hch := hX4.ch
  have htl : tl (r ++ [z]) = some z.b := by simp [tl]
  simp only [List.nodup_cons, List.mem_cons, not_or] at hnd
  have hnM : W2.heap.size ≠ M := fun e => by have := (HX.out.mp).lt; omega
  have hnB : W2.heap.size ≠ B := fun e => by have := lt_of_block HX.out.bl; omega
  have hlt := HX.out.ch.lt
  have hnz : W2.heap.size ≠ z.b := fun e => by have := hlt z (by simp); omega
  have hzmem : z.b ∈ (r ++ [z]).map Nd.b := by simp
  have hBz : B ≠ z.b := fun e => hnd.1.2 (e ▸ hzmem)
  have hMz : M ≠ z.b := fun e => hnd.2.1 (e ▸ hzmem)
  have hrz : ∀ m ∈ r, m.b ≠ z.b := fun m hm e => by
    have := hnd.2.2
    rw [List.map_append, List.nodup_append] at this
    exact this.2.2 m.b (List.mem_map.2 ⟨m, hm, rfl⟩) z.b (by simp) e
  obtain ⟨pv, hmid⟩ : ∃ pv, (ext W3 y).heap[z.b]? = some (.cells #[.int .i64 z.s, .int .u64 z.g, .pointer none, pv] 70 (0, 0)) := ⟨_, hch.mid⟩
  have hB5 : W5.heap[B]? = some (.cells #[.map (some M), pt (hd (r ++ [z])), .pointer (some ⟨z.b, 0, none⟩)] 68 (0, 0)) := by
    have := hX4.bl
    rw [htl] at this
    rw [hW5, put_other _ _ hnd.1.1]; exact this
  obtain ⟨hh, hhd⟩ : ∃ hh, hd (r ++ [z]) = some hh := by cases r <;> exact ⟨_, rfl⟩
  have hpt : pt (hd (r ++ [z])) = .pointer (some ⟨hh, 0, none⟩) := by rw [hhd]; rfl
  have hn5 : W5.heap[W2.heap.size]? = some (.cells #[.int .i64 s, .int .u64 g, .pointer none, .pointer none] 70 (0, 0)) := by rw [hW5, put_other _ _ hnM]; exact hn4
  have hz5 : W5.heap[z.b]? = some (.cells #[.int .i64 z.s, .int .u64 z.g, .pointer none, pv] 70 (0, 0)) := by rw [hW5, put_other _ _ (Ne.symm hMz)]; exact hmid
  have hM5 : W5.heap[M]? = some o := by rw [hW5]; exact put_same _ o hX4.mp.lt
  have hr5 : Chain W5 none (r ++ [z]) := hch.heap fun m hm => by rw [hW5]; exact put_other _ _ (fun e => hnd.2.1 (List.mem_map.2 ⟨m, hm, e⟩))
  have hfr : Fr (own B M (r ++ [z])) w W5 := by rw [hW5]; exact (Fr.of_below hb4 _).put o (.inl (by simp [own]))
  have c1 := cell_of_block (j := 1) hB5 rfl
  rw [hpt] at c1
  have c2 := cell_of_block (j := 2) hB5 rfl
  have f2 := frozen_of_block (j := 2) hB5
  have d2 := cell_of_block (j := 2) hn5 rfl
  have d3 := cell_of_block (j := 3) hn5 rfl
  have e2 := frozen_of_block (j := 2) hn5
  have e3 := frozen_of_block (j := 3) hn5
  have z2 := cell_of_block (j := 2) hz5 rfl
  have y2 := frozen_of_block (j := 2) hz5
  have hA := HA.out
  have HB5 := Lib.hid hB5
  have HN5 := Lib.hid hn5
  have HM5 := Lib.hid hM5
  have HZ5 := Lib.hid hz5
  have HR5 := Lib.hid hr5
  have HA := Lib.hid hA
  have HND := Lib.hid hnd
  have HLT := Lib.hid hlt
  have HAP := Lib.hid hap
  have HRZ := Lib.hid hrz
  have hnB' := hnB.symm
  have hnz' := hnz.symm
  have hBz' := hBz.symm
  clear hA hB5 hn5 hM5 hW5 hX4 hn4 HN3 HX3 HX hk3 hk4 hc3 hk0 hk2 HW3 hnd hlt hap hz5 hr5 hch hmid hrz htl hhd hpt hzmem
  go_wp2_with fail
  go_region
  go_wp2
  go_ret
  refine ⟨rfl, W2.heap.size, hle, ?_, (((hfr.setCell _ _ (.inr hle)).setCell _ _ (.inl (by simp [own]))).setCell _ _ (.inl (by simp [own]))).drew⟩
  have s1 : (((W5.setCell ⟨W2.heap.size, 3, none⟩ (.pointer (some ⟨z.b, 0, none⟩))).setCell ⟨z.b, 2, none⟩ (.pointer (some ⟨W2.heap.size, 0, none⟩))).setCell ⟨B, 2, none⟩ (.pointer (some ⟨W2.heap.size, 0, none⟩))).heap[B]? = _ :=
    set_same _ ((set_other _ hBz).trans ((set_other _ hnB').trans HB5.out))
  have s2 : (((W5.setCell ⟨W2.heap.size, 3, none⟩ (.pointer (some ⟨z.b, 0, none⟩))).setCell ⟨z.b, 2, none⟩ (.pointer (some ⟨W2.heap.size, 0, none⟩))).setCell ⟨B, 2, none⟩ (.pointer (some ⟨W2.heap.size, 0, none⟩))).heap[W2.heap.size]? = _ :=
    (set_other _ hnB).trans ((set_other _ hnz).trans (set_same _ HN5.out))
  have s3 : (((W5.setCell ⟨W2.heap.size, 3, none⟩ (.pointer (some ⟨z.b, 0, none⟩))).setCell ⟨z.b, 2, none⟩ (.pointer (some ⟨W2.heap.size, 0, none⟩))).setCell ⟨B, 2, none⟩ (.pointer (some ⟨W2.heap.size, 0, none⟩))).heap[z.b]? = _ :=
    (set_other _ hBz').trans (set_same _ ((set_other _ hnz').trans HZ5.out))
  obtain ⟨⟨n1, n2⟩, n4, n5⟩ := HND.out
  have hg : ∀ m ∈ r, m.b ≠ W2.heap.size := fun m hm e => by have := HLT.out m (by simp [hm]); omega
  have hgB : ∀ m ∈ r, m.b ≠ B := fun m hm e => n2 (by rw [← e]; exact List.mem_map.2 ⟨m, by simp [hm], rfl⟩)
  refine ⟨?_, (HA.out _ ?_).perm ?_, ?_, ?_, ?_⟩
  · have e1 : hd (r ++ [z, ⟨s, g, W2.heap.size⟩]) = hd (r ++ [z]) := by cases r <;> rfl
    have e2 : tl (r ++ [z, ⟨s, g, W2.heap.size⟩]) = some W2.heap.size := by simp [tl]
    rw [e1, e2]; exact s1
  · exact (set_other _ (Ne.symm n1)).trans ((set_other _ hMz).trans ((set_other _ (Ne.symm hnM)).trans HM5.out))
  · have : (r ++ [z, ⟨s, g, W2.heap.size⟩]) = (r ++ [z]) ++ [⟨s, g, W2.heap.size⟩] := by simp
    rw [this]; exact (List.perm_append_singleton _ _).symm
  · exact Chain.snoc HR5.out (fun m hm => (set_other _ (hgB m hm)).trans ((set_other _ (HRZ.out m hm)).trans (set_other _ (hg m hm)))) HZ5.out s3 s2
  · have : (r ++ [z, ⟨s, g, W2.heap.size⟩]) = (r ++ [z]) ++ [⟨s, g, W2.heap.size⟩] := by simp
    rw [this]
    exact List.pairwise_append.2 ⟨HAP.out, by simp, fun a ha b hb e => by simp at hb; subst hb; exact HNOT.out a ha e⟩
  · have : (r ++ [z, ⟨s, g, W2.heap.size⟩]) = (r ++ [z]) ++ [⟨s, g, W2.heap.size⟩] := by simp
    have g1 : W2.heap.size ∉ (r ++ [z]).map Nd.b := fun e => by
      obtain ⟨m, hm, e⟩ := List.mem_map.1 e
      have := HLT.out m hm; omega
    rw [this, List.map_append]
    simp only [List.map_cons, List.map_nil, List.nodup_cons, List.mem_cons, List.mem_append, List.not_mem_nil, or_false, not_or]
    refine ⟨⟨n1, n2, hnB'⟩, ⟨n4, Ne.symm hnM⟩, ?_⟩
    exact List.nodup_append.2 ⟨n5, by simp, fun a ha b hb e => by simp at hb; subst hb; subst e; exact g1 ha⟩

end Go.Proofs.Ytijiffgfodlepaa
