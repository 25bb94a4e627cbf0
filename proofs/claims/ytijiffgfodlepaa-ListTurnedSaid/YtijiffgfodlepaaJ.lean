/- The law's own walk: the first loop. -/
import Derived.Test.YtijiffgfodlepaaI
namespace Go.Proofs.Ytijiffgfodlepaa
open Go.RowKit Go.MapKept Go.BigFrame

theorem push_any {B M : Nat} {L : List Nd} {s g : Int} {w : World} (h : IsL w B M L) (hn : ∀ m ∈ L, ¬ m.is s g) (hwf : Wf s g) (front : Bool) :
    Calls Try.prog 17 #[.pointer (some ⟨B, 0, none⟩), ky s g, .bool front] w fun e w' => e = .returned (.int .i64 0) ∧ ∃ b, w.heap.size ≤ b ∧ IsL w' B M (if front then ⟨s, g, b⟩ :: L else L ++ [⟨s, g, b⟩]) ∧ Fr (own B M L) w w' := by
  cases L with
  | nil => exact (push_first h hwf front).mono fun e w' ⟨he, b, hb, hi, hf⟩ => ⟨he, b, hb, by cases front <;> exact hi, hf⟩
  | cons z r =>
    cases front with
    | true => exact push_front h hn hwf
    | false =>
      rcases List.eq_nil_or_concat (z :: r) with h0 | ⟨r', z', h0⟩
      · cases h0
      · rw [List.concat_eq_append] at h0
        rw [h0] at h hn ⊢
        refine (push_back h hn hwf).mono ?_
        rintro e w' ⟨he, b, hb, hi, hf⟩
        exact ⟨he, b, hb, by simpa using hi, hf⟩

def orient (p : Bool) (l : List Nd) : List Nd := if p then l.reverse else l
def cellsOf (l : List Nd) : List Value := l.flatMap fun n => [.int .i64 n.s, .int .u64 n.g]

theorem ownsRow_fr {w w' : World} {base e size n : Nat} {v : Value} {xs : List Value} {o : List Nat} (h : w.ownsRow base e size v n xs) (hF : Fr o w w') (hq : ∀ q, v.ownBlock = some q → q ∉ o) : w'.ownsRow base e size v n xs := by
  obtain ⟨h1, h2⟩ := h
  refine ⟨h1, ?_⟩
  rcases h2 with h2 | ⟨g, cap, cur, rfl, h3, h4, h5⟩
  · exact .inl h2
  · exact .inr ⟨g, cap, cur, rfl, h3, (hF.block g (lt_of_block h4) (hq g rfl)).trans h4, h5⟩

theorem mem_orient {p : Bool} {l : List Nd} {n : Nd} : n ∈ orient p l ↔ n ∈ l := by cases p <;> simp [orient]
theorem orient_len (p : Bool) (l : List Nd) : (orient p l).length = l.length := by cases p <;> simp [orient]
theorem orient_snoc (p : Bool) (l : List Nd) (n : Nd) : orient p (l ++ [n]) = if p then n :: orient p l else orient p l ++ [n] := by cases p <;> simp [orient]

/-- A row of handles is none of a list's blocks. -/
theorem own_apart {w : World} {B M : Nat} {L : List Nd} {base n : Nat} {v : Value} {xs : List Value} (hI : IsL w B M L) (hR : w.ownsRow base 29 2 v n xs) : ∀ q, v.ownBlock = some q → q ∉ own B M L := by
  intro q hq hm
  obtain ⟨_, h2⟩ := hR
  rcases h2 with ⟨rfl, _⟩ | ⟨g, cap, cur, rfl, _, h4, _⟩
  · cases hq
  · simp only [Value.ownBlock, Option.some.injEq] at hq
    subst hq
    simp only [own, List.mem_cons, List.mem_map] at hm
    rcases hm with rfl | rfl | ⟨m, hm, rfl⟩
    · have := hI.bl; rw [h4] at this; simp at this
    · obtain ⟨_, es, c, hb, _⟩ := hI.mp; rw [h4] at hb; cases hb
    · obtain ⟨_, _, hb⟩ := hI.ch.at hm; rw [h4] at hb; simp at hb

theorem cellsOf_at {l : List Nd} : ∀ {i : Nat} {n : Nd}, l[i]? = some n → (cellsOf l)[i * 2]? = some (.int .i64 n.s) ∧ (cellsOf l)[i * 2 + 1]? = some (.int .u64 n.g) := by
  induction l with
  | nil => intro i n h; cases h
  | cons x r ih =>
    intro i n h
    cases i with
    | zero => simp at h; subst h; exact ⟨rfl, rfl⟩
    | succ i =>
      have := ih (i := i) (n := n) (by simpa using h)
      have e : (i + 1) * 2 = i * 2 + 1 + 1 := by omega
      rw [e]
      simpa [cellsOf] using this
theorem cellsOf_len (l : List Nd) : (cellsOf l).length = l.length * 2 := by
  induction l with
  | nil => rfl
  | cons x r ih => simp [cellsOf] at ih ⊢; omega

theorem Try.info29 : (Try.prog.info? 29).map (fun i => (i.zero, i.size, i.bytes)) = some (some (.agg #[.int .i64 0, .int .u64 0]), 2, 16) := by kernel_rfl

/-- What is left in the list behind j pops, and what the next one gives. -/
def rem (same : Bool) (l : List Nd) (j : Nat) : List Nd := if same then l.take (l.length - j) else l.drop j
def nth (same : Bool) (l : List Nd) (j : Nat) : Nat := if same then l.length - 1 - j else j

theorem ends_rem {push pop : Bool} {l : List Nd} {j : Nat} (hj : j < l.length) {n : Nd} (hn : l[nth (push == pop) l j]? = some n) :
    Ends pop (orient push (rem (push == pop) l j)) n (orient push (rem (push == pop) l (j + 1))) := by
  have t : ∀ m (h : m < l.length), l.take (m + 1) = l.take m ++ [l[m]] := fun m h => by
    rw [List.take_succ_eq_append_getElem h]
  have d : l.drop j = l[j] :: l.drop (j + 1) := List.drop_eq_getElem_cons hj
  have e : l.length - j = (l.length - 1 - j) + 1 := by omega
  have e' : l.length - (j + 1) = l.length - 1 - j := by omega
  have hlt : l.length - 1 - j < l.length := by omega
  have tt := t _ hlt
  cases push <;> cases pop <;> simp only [rem, nth, orient, beq_self_eq_true, if_true, Bool.false_eq_true, if_false, e, e', beq_iff_eq, reduceCtorEq] at hn ⊢
  · refine .inr ⟨rfl, ?_⟩
    rw [tt]
    rw [List.getElem?_eq_getElem hlt] at hn
    rw [Option.some.inj hn]
  · refine .inl ⟨rfl, ?_⟩
    rw [List.getElem?_eq_getElem hj] at hn
    rw [d, Option.some.inj hn]
  · refine .inr ⟨rfl, ?_⟩
    rw [List.getElem?_eq_getElem hj] at hn
    rw [d, Option.some.inj hn]
    simp
  · refine .inl ⟨rfl, ?_⟩
    rw [tt]
    rw [List.getElem?_eq_getElem hlt] at hn
    rw [Option.some.inj hn]
    simp

set_option maxRecDepth 100000 in
set_option maxHeartbeats 1600000 in
theorem turned_some (a : Option Addr) (b off n cap : Nat) (S G : Nat → Int) (push pop : Bool) (w : World) (hn : n ≤ 300) (ha : 0 < n → a = some ⟨b, off, none⟩ ∧ b < w.heap.size)
    (hc : ∀ i, i < n → w.cell? ⟨b, off + 2 * i, none⟩ = some (.int .i64 (S i)) ∧ w.cell? ⟨b, off + (2 * i + 1), none⟩ = some (.int .u64 (G i)) ∧ Wf (S i) (G i)) :
    Calls Try.prog 4 #[.slice a n cap, .bool push, .bool pop] w fun e w' => e = .returned (.bool true) ∧ Below w.heap.size w w' := by
  have hn' : ¬ (300 : Int) < (n : Int) := by omega
  go_enter Try.func4, Try.ntmps4
  go_wp2_with fail
  refine (new_any w).mono ?_
  rintro e w1 ⟨B, M, rfl, hB, hM, hI1, hb1⟩
  have HI := Lib.hid hI1
  have HB := Lib.hid hb1
  have HC := Lib.hid hc
  have HAD := Lib.hid ha
  clear hI1 hb1 hc ha
  dsimp only
  go_wp2_with fail
  go_loopw [8, 9, 10, 11] (fun v i was e wr => ∃ (k : Nat) (acc : List Nd), k ≤ n ∧ acc.length ≤ k ∧ i = .int .i64 k ∧ IsL wr B M (orient push acc) ∧
      wr.ownsRow w.heap.size 29 2 v acc.length (cellsOf acc) ∧ (∀ q, v.ownBlock = some q → q ∉ own B M (orient push acc)) ∧ (∀ m ∈ acc, w.heap.size ≤ m.b) ∧ Below w.heap.size w wr)
    (fun _ i _ _ _ => n - (intOf i).toNat)
  case atStart => exact ⟨0, [], Nat.zero_le _, Nat.zero_le _, rfl, by cases push <;> exact HI.out, World.ownsRow_nil _ _ _ _, by simp [Value.ownBlock], by simp, HB.out⟩
  case round =>
    obtain ⟨k, acc, hk, hak, rfl, hI, hR, hQ, hA, hBl⟩ := hrel
    by_cases hlt : k < n
    · obtain ⟨rfl, hb⟩ := HAD.out (by omega)
      obtain ⟨e0, e1, hwf⟩ := HC.out k hlt
      clear HAD
      have cc0 : wr.cell? ⟨b, off + k * 2, none⟩ = some (.int .i64 (S k)) := by rw [hBl.cell hb, Nat.mul_comm]; exact e0
      have cc1 : wr.cell? ⟨b, off + k * 2 + 1, none⟩ = some (.int .u64 (G k)) := by rw [hBl.cell hb, Nat.mul_comm, Nat.add_assoc]; exact e1
      have HW := Lib.hid hwf
      have HIr := Lib.hid hI
      have HR := Lib.hid hR
      have HQ := Lib.hid hQ
      have HA := Lib.hid hA
      have HBl := Lib.hid hBl
      clear hwf hI hR hQ hA hBl e0 e1
      have hkn : (k : Int) < (n : Int) := by omega
      by_cases hin : ∃ m ∈ orient push acc, m.is (S k) (G k)
      · obtain ⟨m, hm, hms, hmg⟩ := hin
        have hfm := find_mem HIr.out.ap hm
        rw [hms, hmg] at hfm
        have hH := has_any HIr.out HW.out
        rw [hfm] at hH
        simp only [Option.isSome_some] at hH
        clear hfm
        unfold ky at hH
        go_wp2_with fail
        refine hH.mono ?_
        rintro e w2 ⟨rfl, hb2⟩
        have hP := push_there (HIr.out.below hb2) hm push
        rw [hms, hmg] at hP
        have q0 := (hb2.cell (p := ⟨b, off + k * 2, none⟩) (Nat.lt_of_lt_of_le hb HBl.out.size)).trans cc0
        have q1 := (hb2.cell (p := ⟨b, off + k * 2 + 1, none⟩) (Nat.lt_of_lt_of_le hb HBl.out.size)).trans cc1
        have HB2 := Lib.hid hb2
        clear hb2 hH
        unfold ky at hP
        dsimp only
        go_wp2_with fail
        refine hP.mono ?_
        rintro e w3 ⟨rfl, hb3⟩
        have HB3 := Lib.hid (HB2.out.trans (hb3.mono HB2.out.size))
        clear hb3 hP
        dsimp only
        go_wp2
        have hI3 := HIr.out.below HB3.out
        refine ⟨⟨k + 1, acc, by omega, by omega, by go_num, hI3, ownsRow_fr HR.out (Fr.of_below HB3.out []) (fun _ _ h => by cases h), HQ.out, HA.out, HBl.out.trans (HB3.out.mono HBl.out.size)⟩, by simp [intOf]; omega⟩
      · have hno : ∀ m ∈ orient push acc, ¬ m.is (S k) (G k) := fun m hm h => hin ⟨m, hm, h⟩
        have hH := has_any HIr.out HW.out
        rw [find_not hno] at hH
        simp only [Option.isSome_none] at hH
        have HNO := Lib.hid hno
        clear hno hin
        unfold ky at hH
        go_wp2_with fail
        refine hH.mono ?_
        rintro e w2 ⟨rfl, hb2⟩
        have hP := push_any (HIr.out.below hb2) HNO.out HW.out push
        have q0 := (hb2.cell (p := ⟨b, off + k * 2, none⟩) (Nat.lt_of_lt_of_le hb HBl.out.size)).trans cc0
        have q1 := (hb2.cell (p := ⟨b, off + k * 2 + 1, none⟩) (Nat.lt_of_lt_of_le hb HBl.out.size)).trans cc1
        have HB2 := Lib.hid hb2
        clear hb2 hH
        unfold ky at hP
        dsimp only
        go_wp2_with fail
        refine hP.mono ?_
        rintro e w3 ⟨rfl, nb, hnb, hI3, hF3⟩
        have hF2 : Fr (own B M (orient push acc)) wr w3 := ((Fr.of_below HB2.out _)).trans hF3
        have hownge : ∀ q ∈ own B M (orient push acc), w.heap.size ≤ q := fun q hq => by
          simp only [own, List.mem_cons, List.mem_map] at hq
          rcases hq with rfl | rfl | ⟨m, hm, rfl⟩
          · exact hB
          · exact hM
          · exact HA.out m (mem_orient.1 hm)
        have hB3 : Below w.heap.size w w3 := HBl.out.trans (hF2.below HBl.out.size hownge)
        have r0 : w3.cell? ⟨b, off + k * 2, none⟩ = some (.int .i64 (S k)) := by
          rw [hB3.cell hb]; rw [HBl.out.cell hb] at cc0; exact cc0
        have r1 : w3.cell? ⟨b, off + k * 2 + 1, none⟩ = some (.int .u64 (G k)) := by
          rw [hB3.cell hb]; rw [HBl.out.cell hb] at cc1; exact cc1
        have hR3 := ownsRow_fr HR.out hF2 HQ.out
        have hI4 : IsL w3 B M (orient push (acc ++ [(⟨S k, G k, nb⟩ : Nd)])) := by rw [orient_snoc]; exact hI3
        have hnbB := Nat.le_trans (Nat.le_trans HBl.out.size HB2.out.size) hnb
        have hQlt := HR.out.lt
        have hown' : ∀ q ∈ own B M (orient push (acc ++ [(⟨S k, G k, nb⟩ : Nd)])), q ∈ own B M (orient push acc) ∨ q = nb := fun q hq => by
          simp only [own, List.mem_cons, List.mem_map] at hq ⊢
          rcases hq with h | h | ⟨m, hm, h⟩
          · exact .inl (.inl h)
          · exact .inl (.inr (.inl h))
          · have := mem_orient.1 hm
            rcases List.mem_append.1 this with h1 | h1
            · exact .inl (.inr (.inr ⟨m, mem_orient.2 h1, h⟩))
            · simp at h1; subst h1; exact .inr h.symm
        have hQ4 : ∀ q, u8.ownBlock = some q → q ∉ own B M (orient push (acc ++ [(⟨S k, G k, nb⟩ : Nd)])) := fun q hq hm => by
          rcases hown' q hm with h | h
          · exact HQ.out q hq h
          · have := (hQlt q hq).2
            have := HB2.out.size
            omega
        have HI4 := Lib.hid hI4
        have HB3 := Lib.hid hB3
        have HQ4 := Lib.hid hQ4
        have HNB := Lib.hid hnbB
        have hz3 := hB3.size
        clear hP hI3 hF3 hI4 hB3 hQ4 hnbB hQlt hown' hownge hF2 q0 q1 cc0 cc1 hnb HB2 HIr HR HQ HBl HNO
        obtain ⟨i0, hi, hz0, hz1, hz2⟩ := info_parts Try.info29
        have hlen : acc.length + 1 ≤ 301 := by omega
        have x1 : ∀ u ∈ [Value.int .i64 (S k), Value.int .u64 (G k)], u.oneCell' = true := by simp [Value.oneCell']
        have x2 : acc.length + 1 ≤ maxLen := by unfold maxLen; omega
        have x3 : (acc.length + 1) * 16 ≤ 140737488355328 := by omega
        have x4 : w.heap.size ≤ (w3.alloc (.cells #[.int .i64 (S k), .int .u64 (G k)] 29)).heap.size := by simp; omega
        dsimp only
        go_wp2_with (at_builtin; go_must (refine wpList_append_own _ rfl _ _ 42 rfl w.heap.size 29 i0 (.agg #[.int .i64 0, .int .u64 0]) 2 16 Try.underlying42 hi hz0 hz1 hz2 rfl (by decide) _ _ _ rfl (hR3.alloc _) ⟨w3.heap.size, 0, none⟩ 1 1 [.int .i64 (S k), .int .u64 (G k)] rfl rfl (cell_two_new _ _ _ _) x1 x2 x3 x4 ?_; intro v' w4 hown' hgrow _))
        have hb4 : Below w.heap.size w w4 := (HB3.out.alloc hz3 _).grown hgrow x4 (fun q hq => (hR3.lt q hq).1)
        have hI5 : IsL w4 B M (orient push (acc ++ [(⟨S k, G k, nb⟩ : Nd)])) := by
          refine HI4.out.heap fun q hq => ?_
          have hq3 := HI4.out.lt q hq
          rw [hgrow.block q (by simp; omega) (fun e => HQ4.out q e.symm hq)]
          exact Below.heap_alloc _ _ _ hq3
        have e1 : cellsOf (acc ++ [(⟨S k, G k, nb⟩ : Nd)]) = cellsOf acc ++ [.int .i64 (S k), .int .u64 (G k)] := by simp [cellsOf]
        have hR5 : w4.ownsRow w.heap.size 29 2 v' (acc ++ [(⟨S k, G k, nb⟩ : Nd)]).length (cellsOf (acc ++ [(⟨S k, G k, nb⟩ : Nd)])) := by
          rw [e1, List.length_append]; exact hown'
        refine ⟨⟨k + 1, acc ++ [(⟨S k, G k, nb⟩ : Nd)], by omega, by simp; omega, by go_num, hI5, hR5, own_apart hI5 hR5, ?_, hb4⟩, by simp [intOf]; omega⟩
        intro m hm
        rcases List.mem_append.1 hm with h | h
        · exact HA.out m h
        · simp at h; subst h; exact HNB.out
    · obtain rfl : k = n := by omega
      have hkk : ¬ (k : Int) < (k : Int) := by omega
      obtain ⟨ad, cc, rfl⟩ : ∃ ad cc, u8 = .slice ad acc.length cc := by
        rcases hR.2 with ⟨e, e1⟩ | ⟨g, cc, _, e, _⟩
        · exact ⟨none, 0, by rw [e, e1]⟩
        · exact ⟨_, cc, e⟩
      have hT := through_any hI (by rw [orient_len]; omega)
      rw [orient_len] at hT
      have HI := Lib.hid hI
      have HR := Lib.hid hR
      have HBl := Lib.hid hBl
      have HAcc := Lib.hid hA
      clear hI hR hBl hQ hA HC HAD
      go_wp2_with fail
      refine hT.mono ?_
      rintro e w2 ⟨rfl, hb2⟩
      have hL := len_any (HI.out.below hb2)
      rw [orient_len] at hL
      have HB2 := Lib.hid hb2
      clear hb2 hT
      dsimp only
      go_wp2_with fail
      refine hL.mono ?_
      rintro e w3 ⟨rfl, rfl⟩
      have HI2 := Lib.hid (HI.out.below HB2.out)
      have HR2 := Lib.hid (ownsRow_fr HR.out (Fr.of_below HB2.out []) (fun _ _ h => by cases h))
      have HBl2 := Lib.hid (HBl.out.trans (HB2.out.mono HBl.out.size))
      clear hL HI HR HBl HB2
      dsimp only
      go_wp2_with fail
      generalize hgw : w2 = W2 at *
      clear hgw w2
      have hm : acc.length ≤ 300 := by omega
      have hge : ∀ j, ∀ q ∈ own B M (orient push (rem (push == pop) acc j)), w.heap.size ≤ q := fun j q hq => by
        simp only [own, List.mem_cons, List.mem_map] at hq
        rcases hq with rfl | rfl | ⟨m, hm, rfl⟩
        · exact hB
        · exact hM
        · have := mem_orient.1 hm
          refine HAcc.out m ?_
          unfold rem at this
          split at this
          · exact List.mem_of_mem_take this
          · exact List.mem_of_mem_drop this
      have HGE := Lib.hid hge
      clear hge HAcc
      go_loopw [12, 13, 14, 15] (fun i h is want wr => ∃ j : Nat, j ≤ acc.length ∧ i = .int .i64 j ∧ IsL wr B M (orient push (rem (push == pop) acc j)) ∧
        wr.ownsRow w.heap.size 29 2 (.slice ad acc.length cc) acc.length (cellsOf acc) ∧ Below w.heap.size w wr)
        (fun i _ _ _ _ => acc.length - (intOf i).toNat)
      case atStart => exact ⟨0, Nat.zero_le _, rfl, by simpa [rem] using HI2.out, HR2.out, HBl2.out⟩
      case round =>
        obtain ⟨j, hj, rfl, hIr, hRr, hBr⟩ := hrel
        by_cases hlt : j < acc.length
        · obtain ⟨n, hn⟩ : ∃ n, acc[nth (push == pop) acc j]? = some n := ⟨_, List.getElem?_eq_getElem (by unfold nth; split <;> omega)⟩
          have hP := pop_any hIr (ends_rem hlt hn)
          obtain ⟨g, rfl⟩ : ∃ g, ad = some ⟨g, 0, none⟩ := by
            rcases hRr.2 with ⟨_, e1⟩ | ⟨g, _, _, e, _⟩
            · omega
            · simp at e; exact ⟨g, e.1⟩
          have HIr := Lib.hid hIr
          have HRr := Lib.hid hRr
          have HBr := Lib.hid hBr
          have HN := Lib.hid hn
          have hjj : (j : Int) < (acc.length : Int) := by omega
          clear hIr hRr hBr hn HI2 HR2 HBl2 HB
          unfold ky at hP
          go_wp2_with fail
          refine hP.mono ?_
          rintro e w3 ⟨rfl, hI3, hF3⟩
          have hown := own_apart HIr.out HRr.out
          have hR3 := ownsRow_fr HRr.out hF3 hown
          have HI3 := Lib.hid hI3
          have HR3 := Lib.hid hR3
          have HF3 := Lib.hid hF3
          clear hI3 hR3 hF3 hP hown
          dsimp only
          by_cases hpp : (push == pop) = true
          · have hn := HN.out
            simp only [nth, hpp, if_true] at hn
            obtain ⟨v0, v1⟩ := cellsOf_at hn
            obtain ⟨x0, x1⟩ := cellsOf_at (List.getElem?_eq_getElem hlt)
            have y0 : w3.cell? ⟨g, (acc.length - 1 - j) * 2, none⟩ = some (.int .i64 n.s) := by rw [HR3.out.cellAt _ (by omega)]; exact v0
            have y1 : w3.cell? ⟨g, (acc.length - 1 - j) * 2 + 1, none⟩ = some (.int .u64 n.g) := by rw [HR3.out.cellAt _ (by omega)]; exact v1
            have y2 : w3.cell? ⟨g, j * 2, none⟩ = some (.int .i64 acc[j].s) := by rw [HR3.out.cellAt _ (by omega)]; exact x0
            have y3 : w3.cell? ⟨g, j * 2 + 1, none⟩ = some (.int .u64 acc[j].g) := by rw [HR3.out.cellAt _ (by omega)]; exact x1
            have hgz : g < w3.heap.size := (HR3.out.lt g rfl).2
            clear v0 v1 x0 x1 hn
            go_wp2_with fail
            have hA := below_alloc w3 (.cells #[.int .i64 n.s, .int .u64 n.g] 29)
            have hA2 := hA.alloc (by simp) (.cells #[.int .i64 n.s, .int .u64 n.g] 29)
            refine ⟨⟨j + 1, by omega, by go_num, HI3.out.below hA2, (HR3.out.alloc _).alloc _, ?_⟩, by simp [intOf]; omega⟩
            have hb3 := HBr.out.trans (HF3.out.below HBr.out.size (HGE.out j))
            exact hb3.trans (hA2.mono hb3.size)
          · have hpp' : (push == pop) = false := by simpa using hpp
            have hn := HN.out
            simp only [nth, hpp', Bool.false_eq_true, if_false] at hn
            obtain ⟨v0, v1⟩ := cellsOf_at hn
            have y0 : w3.cell? ⟨g, j * 2, none⟩ = some (.int .i64 n.s) := by rw [HR3.out.cellAt _ (by omega)]; exact v0
            have y1 : w3.cell? ⟨g, j * 2 + 1, none⟩ = some (.int .u64 n.g) := by rw [HR3.out.cellAt _ (by omega)]; exact v1
            have hgz : g < w3.heap.size := (HR3.out.lt g rfl).2
            clear v0 v1 hn
            go_wp2_with fail
            have hA := below_alloc w3 (.cells #[.int .i64 n.s, .int .u64 n.g] 29)
            have hA2 := hA.alloc (by simp) (.cells #[.int .i64 n.s, .int .u64 n.g] 29)
            refine ⟨⟨j + 1, by omega, by go_num, HI3.out.below hA2, (HR3.out.alloc _).alloc _, ?_⟩, by simp [intOf]; omega⟩
            have hb3 := HBr.out.trans (HF3.out.below HBr.out.size (HGE.out j))
            exact hb3.trans (hA2.mono hb3.size)
        · obtain rfl : j = acc.length := by omega
          have hnil : orient push (rem (push == pop) acc acc.length) = [] := by
            unfold rem
            split <;> cases push <;> simp [orient]
          rw [hnil] at hIr
          have hL := len_any hIr
          have hWk := works_any wr
          have hjj : ¬ (acc.length : Int) < (acc.length : Int) := by omega
          have HBr := Lib.hid hBr
          clear hIr hRr hBr HI2 HR2 HBl2 HB hnil
          go_wp2_with fail
          refine hL.mono ?_
          rintro e w3 ⟨rfl, rfl⟩
          dsimp only
          go_wp2_with fail
          refine hWk.mono ?_
          rintro e w3 ⟨rfl, hb3⟩
          have hb4 := HBr.out.trans (hb3.mono HBr.out.size)
          clear hb3 hL hWk HBr
          dsimp only
          go_wp2_with fail
          go_ret
          exact ⟨rfl, hb4⟩

/-- A slice that is too long. -/
theorem turned_long (a : Option Addr) (n cap : Nat) (push pop : Bool) (w : World) (hn : 300 < n) :
    Calls Try.prog 4 #[.slice a n cap, .bool push, .bool pop] w fun e w' => e = .returned (.bool true) ∧ Below w.heap.size w w' := by
  have hn' : (300 : Int) < (n : Int) := by omega
  have hW := works_any w
  go_enter Try.func4, Try.ntmps4
  go_wp2_with fail
  refine hW.mono ?_
  rintro e w3 ⟨rfl, hb3⟩
  dsimp only
  go_wp2_with fail
  go_ret
  exact ⟨rfl, hb3⟩

end Go.Proofs.Ytijiffgfodlepaa
