/- The contract of Remove: the only one, the first, the last. -/
import Derived.Test.YtijiffgfodlepaaF
namespace Go.Proofs.Ytijiffgfodlepaa
open Go.RowKit Go.MapKept Go.BigFrame

theorem Apart.head {l : List Nd} {n : Nd} (h : Apart (n :: l)) : Apart l := (List.pairwise_cons.1 h).2

set_option maxHeartbeats 800000 in
theorem remove_only {B M : Nat} {n : Nd} {w : World} (h : IsL w B M [n]) :
    Calls Try.prog 28 #[.pointer (some ⟨B, 0, none⟩), ky n.s n.g] w fun e w' => e = .returned (.bool true) ∧ IsL w' B M [] ∧ Fr (own B M [n]) w w' := by
  have hm : n ∈ [n] := by simp
  have hf := find_mem h.ap hm
  have hwf := h.mp.1 n hm
  obtain ⟨W, hW⟩ : ∃ W, W = w.alloc (.cells #[.int .i64 n.s, .int .u64 n.g] 29) := ⟨_, rfl⟩
  have hbW : Below w.heap.size w W := by rw [hW]; exact below_alloc w _
  have hLW := h.below hbW
  have hbk : W.heap[w.heap.size]? = some (.cells #[.int .i64 n.s, .int .u64 n.g] 29 (0, 0)) := by rw [hW]; exact (heap_alloc w _).1
  have hH : Calls Try.prog 16 #[.pointer (some ⟨B, 0, none⟩), ky n.s n.g] W fun e w'' => e = .returned (.bool true) ∧ Below W.heap.size W w'' := by
    have := has_any hLW hwf
    rw [hf] at this
    exact this
  unfold ky at *
  have HW := Lib.hid hW
  have HB := Lib.hid hbW
  have HL := Lib.hid hLW
  have HK := Lib.hid hbk
  have HF := Lib.hid hf
  have HWF := Lib.hid hwf
  clear hf hwf h hW hbW hLW hbk hm
  go_enter Try.func28, Try.ntmps28
  go_wp2_with (go_at_call 16; rw [← HW.out]; refine hH.mono ?_; rintro e w' ⟨rfl, hbb⟩)
  have hb1 := HB.out.trans (hbb.mono HB.out.size)
  have hL1 := HL.out.below hbb
  have hk1 : w'.heap[w.heap.size]? = some (.cells #[.int .i64 n.s, .int .u64 n.g] 29 (0, 0)) := by rw [hbb.block _ (lt_of_block HK.out)]; exact HK.out
  clear hH HW HB HL HK hbb
  generalize hq : w' = W1 at *
  clear hq w'
  have hx : ∀ x, IsL (ext W1 x) B M [n] := fun x => hL1.below (below_ext W1 x)
  have hkx : ∀ x, (ext W1 x).heap[w.heap.size]? = some (.cells #[.int .i64 n.s, .int .u64 n.g] 29 (0, 0)) := fun x => by rw [(below_ext W1 x).block _ (lt_of_block hk1)]; exact hk1
  have hc : ∀ x, (ext W1 x).cell? ⟨B, 0, none⟩ = some (.map (some M)) := fun x => cell_of_block (hx x).bl rfl
  have hk0 := fun x => cell_of_block (j := 0) (hkx x) rfl
  have hk2 := fun x => cell_of_block (j := 1) (hkx x) rfl
  have hl : ∀ x, (Instr.lookup 65 (.map (some M)) (.agg #[.int .i64 n.s, .int .u64 n.g]) false).run Try.prog (ext W1 x) = .ok (.pointer (some ⟨n.b, 0, none⟩)) (ext W1 x) := fun x => by
    have := (hx x).look HWF.out
    rw [HF.out] at this
    exact this
  have HX := Lib.hid hx
  have HKX := Lib.hid hkx
  clear hx hkx hL1 hk1
  refine region_ext (by kernel_rfl) (by kernel_rfl) ?_
  repeat (go_big_quiet_step (fail))
  refine wpQuiet_nil ?_
  rintro _ ⟨x, rfl⟩
  have hb2 := hb1.trans ((below_ext W1 x).mono hb1.size)
  have hL2 := HX.out x
  have hk2' := HKX.out x
  clear hc hk0 hk2 hl HX HKX hb1
  generalize ext W1 x = W2 at *
  have hx : ∀ y, IsL (ext W2 y) B M [n] := fun y => hL2.below (below_ext W2 y)
  have hkx : ∀ y, (ext W2 y).heap[w.heap.size]? = some (.cells #[.int .i64 n.s, .int .u64 n.g] 29 (0, 0)) := fun y => by rw [(below_ext W2 y).block _ (lt_of_block hk2')]; exact hk2'
  have hc : ∀ y, (ext W2 y).cell? ⟨B, 0, none⟩ = some (.map (some M)) := fun y => cell_of_block (hx y).bl rfl
  have hk0 := fun y => cell_of_block (j := 0) (hkx y) rfl
  have hk2 := fun y => cell_of_block (j := 1) (hkx y) rfl
  have hperm : (n :: []).Perm [n] := by exact List.Perm.refl _
  have hap : Apart (n :: []) := hperm.symm.pairwise hL2.ap (fun {a b} hab e => hab ⟨e.1.symm, e.2.symm⟩)
  obtain ⟨o, hdel, hafter⟩ := (hL2.mp.perm hperm.symm).drop hap 0
  have hM2 : ∀ y, (ext W2 y).heap[M]? = W2.heap[M]? := fun y => (below_ext W2 y).block _ hL2.mp.lt
  have hdel2 : ∀ y ty, (Builtin.delete_ #[65, 29] ty #[.map (some M), .agg #[.int .i64 n.s, .int .u64 n.g]]).run Try.prog (ext W2 y) = .ok (.tuple #[]) (ChangeMaps.setBlock (ext W2 y) M o) := fun y ty => hdel _ (hM2 y)
  have HX := Lib.hid hx
  have HA := Lib.hid hafter
  have HAP := Lib.hid hap
  clear hx hkx hdel hafter hM2 hL2 hk2' hap hperm
  go_wp2_with fail
  refine region_tail 5 (by kernel_rfl) (by kernel_rfl) (fun y => ?_)
  simp only [List.take_succ_cons, List.take_zero, List.drop_succ_cons, List.drop_zero]
  repeat still_step
  refine wpStill_nil ?_
  obtain ⟨W5, hW5⟩ : ∃ W5, W5 = ChangeMaps.setBlock (ext W2 y) M o := ⟨_, rfl⟩
  replace hdel2 := hdel2 y
  rw [← hW5] at hdel2
  have hX4 := HX.out y
  have hb4 := hb2.trans ((below_ext W2 y).mono hb2.size)
  have hM5 : W5.heap[M]? = some o := by rw [hW5]; exact put_same _ o hX4.mp.lt
  have hfr : Fr (own B M [n]) w W5 := by rw [hW5]; exact (Fr.of_below hb4 _).put o (.inl (by simp [own]))
  have hnd := hX4.nd
  have hch := hX4.ch
  simp only [List.map_cons, List.map_nil, List.nodup_cons, List.mem_cons, List.not_mem_nil, or_false, not_or] at hnd
  have hB5 : W5.heap[B]? = some (.cells #[.map (some M), .pointer (some ⟨n.b, 0, none⟩), .pointer (some ⟨n.b, 0, none⟩)] 68 (0, 0)) := by rw [hW5, put_other _ _ hnd.1.1]; exact hX4.bl
  have hn5 : W5.heap[n.b]? = some (.cells #[.int .i64 n.s, .int .u64 n.g, .pointer none, .pointer none] 70 (0, 0)) := by rw [hW5, put_other _ _ (Ne.symm hnd.2.1)]; exact hch.1
  have c2 := cell_of_block (j := 2) hn5 rfl
  have c3 := cell_of_block (j := 3) hn5 rfl
  have b1 := cell_of_block (j := 1) hB5 rfl
  have b2 := cell_of_block (j := 2) hB5 rfl
  have f1 := frozen_of_block (j := 1) hB5
  have f2 := frozen_of_block (j := 2) hB5
  have hBn : B ≠ n.b := hnd.1.2
  have hBn' := hBn.symm
  have HB5 := Lib.hid hB5
  have HM5 := Lib.hid hM5
  have HND := Lib.hid hnd
  clear hB5 hM5 hnd hch hX4 HX hW5 hn5 hc hk0 hk2
  go_wp2_with fail
  go_ret
  refine ⟨rfl, ?_, (hfr.setCell _ _ (.inl (by simp [own]))).setCell _ _ (.inl (by simp [own]))⟩
  have e1 := set_same (j := 1) (.pointer none) HB5.out
  have e2 := set_same (j := 2) (.pointer none) e1
  refine ⟨e2, HA.out _ ?_, trivial, HAP.out.head, ?_⟩
  · exact (set_other _ (Ne.symm HND.out.1.1)).trans ((set_other _ (Ne.symm HND.out.1.1)).trans HM5.out)
  · simp [HND.out.1.1]

set_option maxHeartbeats 800000 in
theorem remove_first {B M : Nat} {n m : Nd} {r : List Nd} {w : World} (h : IsL w B M (n :: m :: r)) :
    Calls Try.prog 28 #[.pointer (some ⟨B, 0, none⟩), ky n.s n.g] w fun e w' => e = .returned (.bool true) ∧ IsL w' B M (m :: r) ∧ Fr (own B M (n :: m :: r)) w w' := by
  have hm : n ∈ (n :: m :: r) := by simp
  have hf := find_mem h.ap hm
  have hwf := h.mp.1 n hm
  obtain ⟨W, hW⟩ : ∃ W, W = w.alloc (.cells #[.int .i64 n.s, .int .u64 n.g] 29) := ⟨_, rfl⟩
  have hbW : Below w.heap.size w W := by rw [hW]; exact below_alloc w _
  have hLW := h.below hbW
  have hbk : W.heap[w.heap.size]? = some (.cells #[.int .i64 n.s, .int .u64 n.g] 29 (0, 0)) := by rw [hW]; exact (heap_alloc w _).1
  have hH : Calls Try.prog 16 #[.pointer (some ⟨B, 0, none⟩), ky n.s n.g] W fun e w'' => e = .returned (.bool true) ∧ Below W.heap.size W w'' := by
    have := has_any hLW hwf
    rw [hf] at this
    exact this
  unfold ky at *
  have HW := Lib.hid hW
  have HB := Lib.hid hbW
  have HL := Lib.hid hLW
  have HK := Lib.hid hbk
  have HF := Lib.hid hf
  have HWF := Lib.hid hwf
  clear hf hwf h hW hbW hLW hbk hm
  go_enter Try.func28, Try.ntmps28
  go_wp2_with (go_at_call 16; rw [← HW.out]; refine hH.mono ?_; rintro e w' ⟨rfl, hbb⟩)
  have hb1 := HB.out.trans (hbb.mono HB.out.size)
  have hL1 := HL.out.below hbb
  have hk1 : w'.heap[w.heap.size]? = some (.cells #[.int .i64 n.s, .int .u64 n.g] 29 (0, 0)) := by rw [hbb.block _ (lt_of_block HK.out)]; exact HK.out
  clear hH HW HB HL HK hbb
  generalize hq : w' = W1 at *
  clear hq w'
  have hx : ∀ x, IsL (ext W1 x) B M (n :: m :: r) := fun x => hL1.below (below_ext W1 x)
  have hkx : ∀ x, (ext W1 x).heap[w.heap.size]? = some (.cells #[.int .i64 n.s, .int .u64 n.g] 29 (0, 0)) := fun x => by rw [(below_ext W1 x).block _ (lt_of_block hk1)]; exact hk1
  have hc : ∀ x, (ext W1 x).cell? ⟨B, 0, none⟩ = some (.map (some M)) := fun x => cell_of_block (hx x).bl rfl
  have hk0 := fun x => cell_of_block (j := 0) (hkx x) rfl
  have hk2 := fun x => cell_of_block (j := 1) (hkx x) rfl
  have hl : ∀ x, (Instr.lookup 65 (.map (some M)) (.agg #[.int .i64 n.s, .int .u64 n.g]) false).run Try.prog (ext W1 x) = .ok (.pointer (some ⟨n.b, 0, none⟩)) (ext W1 x) := fun x => by
    have := (hx x).look HWF.out
    rw [HF.out] at this
    exact this
  have HX := Lib.hid hx
  have HKX := Lib.hid hkx
  clear hx hkx hL1 hk1
  refine region_ext (by kernel_rfl) (by kernel_rfl) ?_
  repeat (go_big_quiet_step (fail))
  refine wpQuiet_nil ?_
  rintro _ ⟨x, rfl⟩
  have hb2 := hb1.trans ((below_ext W1 x).mono hb1.size)
  have hL2 := HX.out x
  have hk2' := HKX.out x
  clear hc hk0 hk2 hl HX HKX hb1
  generalize ext W1 x = W2 at *
  have hx : ∀ y, IsL (ext W2 y) B M (n :: m :: r) := fun y => hL2.below (below_ext W2 y)
  have hkx : ∀ y, (ext W2 y).heap[w.heap.size]? = some (.cells #[.int .i64 n.s, .int .u64 n.g] 29 (0, 0)) := fun y => by rw [(below_ext W2 y).block _ (lt_of_block hk2')]; exact hk2'
  have hc : ∀ y, (ext W2 y).cell? ⟨B, 0, none⟩ = some (.map (some M)) := fun y => cell_of_block (hx y).bl rfl
  have hk0 := fun y => cell_of_block (j := 0) (hkx y) rfl
  have hk2 := fun y => cell_of_block (j := 1) (hkx y) rfl
  have hperm : (n :: (m :: r)).Perm (n :: m :: r) := by exact List.Perm.refl _
  have hap : Apart (n :: (m :: r)) := hperm.symm.pairwise hL2.ap (fun {a b} hab e => hab ⟨e.1.symm, e.2.symm⟩)
  obtain ⟨o, hdel, hafter⟩ := (hL2.mp.perm hperm.symm).drop hap 0
  have hM2 : ∀ y, (ext W2 y).heap[M]? = W2.heap[M]? := fun y => (below_ext W2 y).block _ hL2.mp.lt
  have hdel2 : ∀ y ty, (Builtin.delete_ #[65, 29] ty #[.map (some M), .agg #[.int .i64 n.s, .int .u64 n.g]]).run Try.prog (ext W2 y) = .ok (.tuple #[]) (ChangeMaps.setBlock (ext W2 y) M o) := fun y ty => hdel _ (hM2 y)
  have HX := Lib.hid hx
  have HA := Lib.hid hafter
  have HAP := Lib.hid hap
  clear hx hkx hdel hafter hM2 hL2 hk2' hap hperm
  go_wp2_with fail
  refine region_tail 5 (by kernel_rfl) (by kernel_rfl) (fun y => ?_)
  simp only [List.take_succ_cons, List.take_zero, List.drop_succ_cons, List.drop_zero]
  repeat still_step
  refine wpStill_nil ?_
  obtain ⟨W5, hW5⟩ : ∃ W5, W5 = ChangeMaps.setBlock (ext W2 y) M o := ⟨_, rfl⟩
  replace hdel2 := hdel2 y
  rw [← hW5] at hdel2
  have hX4 := HX.out y
  have hb4 := hb2.trans ((below_ext W2 y).mono hb2.size)
  have hM5 : W5.heap[M]? = some o := by rw [hW5]; exact put_same _ o hX4.mp.lt
  have hfr : Fr (own B M (n :: m :: r)) w W5 := by rw [hW5]; exact (Fr.of_below hb4 _).put o (.inl (by simp [own]))
  have hnd := hX4.nd
  have hch := hX4.ch
  simp only [List.map_cons, List.nodup_cons, List.mem_cons, not_or] at hnd
  have hB5 : W5.heap[B]? = some (.cells #[.map (some M), .pointer (some ⟨n.b, 0, none⟩), pt (tl (n :: m :: r))] 68 (0, 0)) := by rw [hW5, put_other _ _ hnd.1.1]; exact hX4.bl
  have hn5 : W5.heap[n.b]? = some (.cells #[.int .i64 n.s, .int .u64 n.g, .pointer (some ⟨m.b, 0, none⟩), .pointer none] 70 (0, 0)) := by rw [hW5, put_other _ _ (Ne.symm hnd.2.1.1)]; exact hch.1
  have hm5 : W5.heap[m.b]? = some (.cells #[.int .i64 m.s, .int .u64 m.g, pt (hd r), .pointer (some ⟨n.b, 0, none⟩)] 70 (0, 0)) := by rw [hW5, put_other _ _ (Ne.symm hnd.2.1.2.1)]; exact hch.2.1
  have hr5 : Chain W5 (some m.b) r := hch.2.2.heap fun k hk => by rw [hW5]; exact put_other _ _ (fun e => hnd.2.1.2.2 (List.mem_map.2 ⟨k, hk, e⟩))
  have c2 := cell_of_block (j := 2) hn5 rfl
  have c3 := cell_of_block (j := 3) hn5 rfl
  have b1 := cell_of_block (j := 1) hB5 rfl
  have f1 := frozen_of_block (j := 1) hB5
  have m3 := cell_of_block (j := 3) hm5 rfl
  have y3 := frozen_of_block (j := 3) hm5
  have hBn : B ≠ n.b := hnd.1.2.1
  have hBm : B ≠ m.b := hnd.1.2.2.1
  have hnm : n.b ≠ m.b := hnd.2.2.1.1
  have hBn' := hBn.symm
  have hBm' := hBm.symm
  have hnm' := hnm.symm
  have HB5 := Lib.hid hB5
  have HM5 := Lib.hid hM5
  have HN5 := Lib.hid hm5
  have HR5 := Lib.hid hr5
  have HND := Lib.hid hnd
  clear hB5 hM5 hnd hch hX4 HX hW5 hn5 hc hk0 hk2 hm5 hr5
  go_wp2_with fail
  go_region
  go_wp2
  go_ret
  refine ⟨rfl, ?_, ((hfr.setCell _ _ (.inl (by simp [own]))).setCell _ _ (.inl (by simp [own]))).drew⟩
  have s1 : ((W5.setCell ⟨B, 1, none⟩ (.pointer (some ⟨m.b, 0, none⟩))).setCell ⟨m.b, 3, none⟩ (.pointer none)).heap[B]? = _ := (set_other _ hBm).trans (set_same _ HB5.out)
  have s2 : ((W5.setCell ⟨B, 1, none⟩ (.pointer (some ⟨m.b, 0, none⟩))).setCell ⟨m.b, 3, none⟩ (.pointer none)).heap[m.b]? = _ := set_same _ ((set_other _ hBm').trans HN5.out)
  obtain ⟨⟨n1, n2, n3, n4⟩, ⟨n5, n6, n7⟩, ⟨n8, n9⟩, n10, n11⟩ := HND.out
  refine ⟨s1, HA.out _ ?_, ⟨s2, HR5.out.heap fun k hk => ?_⟩, HAP.out.head, ?_⟩
  · exact (set_other _ n6).trans ((set_other _ (Ne.symm n1)).trans HM5.out)
  · exact (set_other _ (fun e => n10 (List.mem_map.2 ⟨k, hk, e⟩))).trans (set_other _ (fun e => n4 (List.mem_map.2 ⟨k, hk, e⟩)))
  · simp only [List.map_cons, List.nodup_cons, List.mem_cons, not_or]
    exact ⟨⟨n1, n3, n4⟩, ⟨n6, n7⟩, n10, n11⟩

theorem Chain.chop {w w' : World} : ∀ {r : List Nd} {m n : Nd} {pv : Option Nat} {q : Value}, Chain w pv (r ++ [m, n]) → (∀ k ∈ r, w'.heap[k.b]? = w.heap[k.b]?) →
    w.heap[m.b]? = some (.cells #[.int .i64 m.s, .int .u64 m.g, .pointer (some ⟨n.b, 0, none⟩), q] 70 (0, 0)) →
    w'.heap[m.b]? = some (.cells #[.int .i64 m.s, .int .u64 m.g, .pointer none, q] 70 (0, 0)) → Chain w' pv (r ++ [m])
  | [], m, n, pv, q, h, _, h0, h1 => by
    have e : q = pt pv := by
      have := h.1
      rw [h0] at this
      simp at this
      exact this.2
    subst e
    exact ⟨h1, trivial⟩
  | k :: r, m, n, pv, q, h, hw, h0, h1 => by
    refine ⟨?_, Chain.chop h.2 (fun k' hk' => hw k' (by simp [hk'])) h0 h1⟩
    have e1 : hd (r ++ [m]) = hd (r ++ [m, n]) := by cases r <;> rfl
    show w'.heap[k.b]? = some (.cells #[.int .i64 k.s, .int .u64 k.g, pt (hd (r ++ [m])), pt pv] 70 (0, 0))
    rw [e1, hw k (by simp)]
    exact h.1

set_option maxHeartbeats 800000 in
theorem remove_last {B M : Nat} {n m : Nd} {r : List Nd} {w : World} (h : IsL w B M (r ++ [m, n])) :
    Calls Try.prog 28 #[.pointer (some ⟨B, 0, none⟩), ky n.s n.g] w fun e w' => e = .returned (.bool true) ∧ IsL w' B M (r ++ [m]) ∧ Fr (own B M (r ++ [m, n])) w w' := by
  have hm : n ∈ (r ++ [m, n]) := by simp
  have hf := find_mem h.ap hm
  have hwf := h.mp.1 n hm
  obtain ⟨W, hW⟩ : ∃ W, W = w.alloc (.cells #[.int .i64 n.s, .int .u64 n.g] 29) := ⟨_, rfl⟩
  have hbW : Below w.heap.size w W := by rw [hW]; exact below_alloc w _
  have hLW := h.below hbW
  have hbk : W.heap[w.heap.size]? = some (.cells #[.int .i64 n.s, .int .u64 n.g] 29 (0, 0)) := by rw [hW]; exact (heap_alloc w _).1
  have hH : Calls Try.prog 16 #[.pointer (some ⟨B, 0, none⟩), ky n.s n.g] W fun e w'' => e = .returned (.bool true) ∧ Below W.heap.size W w'' := by
    have := has_any hLW hwf
    rw [hf] at this
    exact this
  unfold ky at *
  have HW := Lib.hid hW
  have HB := Lib.hid hbW
  have HL := Lib.hid hLW
  have HK := Lib.hid hbk
  have HF := Lib.hid hf
  have HWF := Lib.hid hwf
  clear hf hwf h hW hbW hLW hbk hm
  go_enter Try.func28, Try.ntmps28
  go_wp2_with (go_at_call 16; rw [← HW.out]; refine hH.mono ?_; rintro e w' ⟨rfl, hbb⟩)
  have hb1 := HB.out.trans (hbb.mono HB.out.size)
  have hL1 := HL.out.below hbb
  have hk1 : w'.heap[w.heap.size]? = some (.cells #[.int .i64 n.s, .int .u64 n.g] 29 (0, 0)) := by rw [hbb.block _ (lt_of_block HK.out)]; exact HK.out
  clear hH HW HB HL HK hbb
  generalize hq : w' = W1 at *
  clear hq w'
  have hx : ∀ x, IsL (ext W1 x) B M (r ++ [m, n]) := fun x => hL1.below (below_ext W1 x)
  have hkx : ∀ x, (ext W1 x).heap[w.heap.size]? = some (.cells #[.int .i64 n.s, .int .u64 n.g] 29 (0, 0)) := fun x => by rw [(below_ext W1 x).block _ (lt_of_block hk1)]; exact hk1
  have hc : ∀ x, (ext W1 x).cell? ⟨B, 0, none⟩ = some (.map (some M)) := fun x => cell_of_block (hx x).bl rfl
  have hk0 := fun x => cell_of_block (j := 0) (hkx x) rfl
  have hk2 := fun x => cell_of_block (j := 1) (hkx x) rfl
  have hl : ∀ x, (Instr.lookup 65 (.map (some M)) (.agg #[.int .i64 n.s, .int .u64 n.g]) false).run Try.prog (ext W1 x) = .ok (.pointer (some ⟨n.b, 0, none⟩)) (ext W1 x) := fun x => by
    have := (hx x).look HWF.out
    rw [HF.out] at this
    exact this
  have HX := Lib.hid hx
  have HKX := Lib.hid hkx
  clear hx hkx hL1 hk1
  refine region_ext (by kernel_rfl) (by kernel_rfl) ?_
  repeat (go_big_quiet_step (fail))
  refine wpQuiet_nil ?_
  rintro _ ⟨x, rfl⟩
  have hb2 := hb1.trans ((below_ext W1 x).mono hb1.size)
  have hL2 := HX.out x
  have hk2' := HKX.out x
  clear hc hk0 hk2 hl HX HKX hb1
  generalize ext W1 x = W2 at *
  have hx : ∀ y, IsL (ext W2 y) B M (r ++ [m, n]) := fun y => hL2.below (below_ext W2 y)
  have hkx : ∀ y, (ext W2 y).heap[w.heap.size]? = some (.cells #[.int .i64 n.s, .int .u64 n.g] 29 (0, 0)) := fun y => by rw [(below_ext W2 y).block _ (lt_of_block hk2')]; exact hk2'
  have hc : ∀ y, (ext W2 y).cell? ⟨B, 0, none⟩ = some (.map (some M)) := fun y => cell_of_block (hx y).bl rfl
  have hk0 := fun y => cell_of_block (j := 0) (hkx y) rfl
  have hk2 := fun y => cell_of_block (j := 1) (hkx y) rfl
  have hperm : (n :: (r ++ [m])).Perm (r ++ [m, n]) := by 
    have : r ++ [m, n] = (r ++ [m]) ++ [n] := by simp
    rw [this]; exact (List.perm_append_singleton _ _).symm
  have hap : Apart (n :: (r ++ [m])) := hperm.symm.pairwise hL2.ap (fun {a b} hab e => hab ⟨e.1.symm, e.2.symm⟩)
  obtain ⟨o, hdel, hafter⟩ := (hL2.mp.perm hperm.symm).drop hap 0
  have hM2 : ∀ y, (ext W2 y).heap[M]? = W2.heap[M]? := fun y => (below_ext W2 y).block _ hL2.mp.lt
  have hdel2 : ∀ y ty, (Builtin.delete_ #[65, 29] ty #[.map (some M), .agg #[.int .i64 n.s, .int .u64 n.g]]).run Try.prog (ext W2 y) = .ok (.tuple #[]) (ChangeMaps.setBlock (ext W2 y) M o) := fun y ty => hdel _ (hM2 y)
  have HX := Lib.hid hx
  have HA := Lib.hid hafter
  have HAP := Lib.hid hap
  clear hx hkx hdel hafter hM2 hL2 hk2' hap hperm
  go_wp2_with fail
  refine region_tail 5 (by kernel_rfl) (by kernel_rfl) (fun y => ?_)
  simp only [List.take_succ_cons, List.take_zero, List.drop_succ_cons, List.drop_zero]
  repeat still_step
  refine wpStill_nil ?_
  obtain ⟨W5, hW5⟩ : ∃ W5, W5 = ChangeMaps.setBlock (ext W2 y) M o := ⟨_, rfl⟩
  replace hdel2 := hdel2 y
  rw [← hW5] at hdel2
  have hX4 := HX.out y
  have hb4 := hb2.trans ((below_ext W2 y).mono hb2.size)
  have hM5 : W5.heap[M]? = some o := by rw [hW5]; exact put_same _ o hX4.mp.lt
  have hfr : Fr (own B M (r ++ [m, n])) w W5 := by rw [hW5]; exact (Fr.of_below hb4 _).put o (.inl (by simp [own]))
  have hnd := hX4.nd
  have hch := hX4.ch
  simp only [List.nodup_cons, List.mem_cons, not_or] at hnd
  have hmem : m.b ∈ (r ++ [m, n]).map Nd.b := by simp
  have hmen : n.b ∈ (r ++ [m, n]).map Nd.b := by simp
  have htl : tl (r ++ [m, n]) = some n.b := by simp [tl]
  have hBn : B ≠ n.b := fun e => hnd.1.2 (e ▸ hmen)
  have hBm : B ≠ m.b := fun e => hnd.1.2 (e ▸ hmem)
  have hMn : M ≠ n.b := fun e => hnd.2.1 (e ▸ hmen)
  have hMm : M ≠ m.b := fun e => hnd.2.1 (e ▸ hmem)
  have hsp := hnd.2.2
  rw [List.map_append, List.nodup_append] at hsp
  have hnm : m.b ≠ n.b := by have := hsp.2.1; simp at this; exact this
  have hrm : ∀ k ∈ r, k.b ≠ m.b := fun k hk e => hsp.2.2 k.b (List.mem_map.2 ⟨k, hk, rfl⟩) m.b (by simp) e
  obtain ⟨hh, hhd⟩ : ∃ hh, hd (r ++ [m, n]) = some hh := by cases r <;> exact ⟨_, rfl⟩
  have hB5 : W5.heap[B]? = some (.cells #[.map (some M), .pointer (some ⟨hh, 0, none⟩), .pointer (some ⟨n.b, 0, none⟩)] 68 (0, 0)) := by
    have := hX4.bl
    rw [htl, hhd] at this
    rw [hW5, put_other _ _ hnd.1.1]; exact this
  have hn5 : W5.heap[n.b]? = some (.cells #[.int .i64 n.s, .int .u64 n.g, .pointer none, .pointer (some ⟨m.b, 0, none⟩)] 70 (0, 0)) := by
    have hch' : Chain (ext W2 y) none ((r ++ [m]) ++ [n]) := by simpa using hch
    have h1 := hch'.mid
    have e1 : tl (r ++ [m]) = some m.b := by simp [tl]
    rw [hW5, put_other _ _ (Ne.symm hMn), h1]
    cases r with
    | nil => rfl
    | cons k r => simp only [List.cons_append]; simp only [List.cons_append] at e1; rw [e1]; rfl
  obtain ⟨pv, hm4⟩ : ∃ pv, (ext W2 y).heap[m.b]? = some (.cells #[.int .i64 m.s, .int .u64 m.g, .pointer (some ⟨n.b, 0, none⟩), pv] 70 (0, 0)) := ⟨_, hch.mid⟩
  have hm5 : W5.heap[m.b]? = some (.cells #[.int .i64 m.s, .int .u64 m.g, .pointer (some ⟨n.b, 0, none⟩), pv] 70 (0, 0)) := by rw [hW5, put_other _ _ (Ne.symm hMm)]; exact hm4
  have hr5 : Chain W5 none (r ++ [m, n]) := hch.heap fun k hk => by rw [hW5]; exact put_other _ _ (fun e => hnd.2.1 (List.mem_map.2 ⟨k, hk, e⟩))
  have c2 := cell_of_block (j := 2) hn5 rfl
  have c3 := cell_of_block (j := 3) hn5 rfl
  have b2 := cell_of_block (j := 2) hB5 rfl
  have f2 := frozen_of_block (j := 2) hB5
  have m2 := cell_of_block (j := 2) hm5 rfl
  have y2 := frozen_of_block (j := 2) hm5
  have hBn' := hBn.symm
  have hBm' := hBm.symm
  have hnm' := hnm.symm
  have HB5 := Lib.hid hB5
  have HM5 := Lib.hid hM5
  have HN5 := Lib.hid hm5
  have HR5 := Lib.hid hr5
  have HND := Lib.hid hnd
  have HRM := Lib.hid hrm
  have HHD := Lib.hid hhd
  clear hB5 hM5 hnd hch hX4 HX hW5 hn5 hc hk0 hk2 hm5 hm4 hr5 hrm hsp hmem hmen htl hhd
  go_wp2_with fail
  go_region
  go_wp2
  go_ret
  refine ⟨rfl, ?_, ((hfr.setCell _ _ (.inl (by simp [own]))).setCell _ _ (.inl (by simp [own]))).drew⟩
  have s1 : ((W5.setCell ⟨m.b, 2, none⟩ (.pointer none)).setCell ⟨B, 2, none⟩ (.pointer (some ⟨m.b, 0, none⟩))).heap[B]? = _ := set_same _ ((set_other _ hBm).trans HB5.out)
  have s2 : ((W5.setCell ⟨m.b, 2, none⟩ (.pointer none)).setCell ⟨B, 2, none⟩ (.pointer (some ⟨m.b, 0, none⟩))).heap[m.b]? = _ := (set_other _ hBm').trans (set_same _ HN5.out)
  obtain ⟨⟨n1, n2⟩, n4, n5⟩ := HND.out
  refine ⟨?_, HA.out _ ?_, ?_, HAP.out.head, ?_⟩
  · have e1 : hd (r ++ [m]) = some hh := by rw [← HHD.out]; cases r <;> rfl
    have e2 : tl (r ++ [m]) = some m.b := by simp [tl]
    rw [e1, e2]; exact s1
  · exact (set_other _ (Ne.symm n1)).trans ((set_other _ hMm).trans HM5.out)
  · exact Chain.chop HR5.out (fun k hk => (set_other _ (fun e => n2 (List.mem_map.2 ⟨k, by simp [hk], e⟩))).trans (set_other _ (HRM.out k hk))) HN5.out s2
  · have e : r ++ [m, n] = (r ++ [m]) ++ [n] := by simp
    rw [e, List.map_append] at n2 n4 n5
    simp only [List.nodup_cons, List.mem_cons, not_or]
    exact ⟨⟨n1, fun h => n2 (List.mem_append_left _ h)⟩, fun h => n4 (List.mem_append_left _ h), (List.nodup_append.1 n5).1⟩

end Go.Proofs.Ytijiffgfodlepaa
