/- References: the law's walk. -/
import Derived.Test.YtijiffgfodlepaaY
import Derived.Maps.OwnSet
import Derived.Maps.Views
import Derived.Deep.Cut
import Derived.Deep.CutRange
import Derived.Deep.CutBlock
import Derived.Deep.LoopGhost
namespace Go.Proofs.Ytijiffgfodlepaa
open Go.RowKit Go.BigFrame Go.MapKept

theorem wf_u64 {r : Int} (h : 0 ≤ r ∧ r < 18446744073709551616) : (Lit.int .u64 r).wf = true := by
  have e1 : IntKind.u64.min = 0 := rfl
  have e2 : IntKind.u64.max = 18446744073709551615 := rfl
  simp only [Lit.wf, e1, e2, Bool.and_eq_true, decide_eq_true_eq]
  omega

theorem keyed26 : Maps.Keyed Try.prog 26 := Maps.int_keyed Try.underlying26
theorem zeroR3 (w : World) : (zeroValue 3).run Try.prog w = .ok (.int .i64 0) w := by kernel_rfl

/-- Of each number that was noted, the reference is over. -/
def Noted {H : Type} (D : DataW H) (l : List Rf) : Prop := Maps.IsMap D ∧ (∀ x ∈ l, ¬ x.k = 0) ∧ ∀ n : Int, D.atKey (.int .u64 n) (.lit (.int .i64 0)) = .lit (.int .i64 0) ∨ ∃ (i : Nat) (x : Rf), n = i + 1 ∧ l[i]? = some x ∧ x.k = 3

theorem Noted.keep {H : Type} {D : DataW H} {l l' : List Rf} (h : Noted D l) (hk : ∀ (i : Nat) (x : Rf), l[i]? = some x → x.k = 3 → ∃ y : Rf, l'[i]? = some y ∧ y.k = 3) (h0 : ∀ x ∈ l', ¬ x.k = 0) : Noted D l' := by
  refine ⟨h.1, h0, fun n => ?_⟩
  rcases h.2.2 n with h0 | ⟨i, x, rfl, hx, h3⟩
  · exact .inl h0
  · obtain ⟨y, hy, hy3⟩ := hk i x hx h3
    exact .inr ⟨i, y, rfl, hy, hy3⟩

theorem keep_app (l : List Rf) (y : Rf) : ∀ (i : Nat) (x : Rf), l[i]? = some x → x.k = 3 → ∃ z : Rf, (l ++ [y])[i]? = some z ∧ z.k = 3 := fun i x hx h3 =>
  ⟨x, by rw [List.getElem?_append_left (List.getElem?_eq_some_iff.1 hx).1]; exact hx, h3⟩
theorem keep_set {l : List Rf} {j : Nat} {y : Rf} (hl : ∀ x : Rf, l[j]? = some x → x.k = 3 → y.k = 3) : ∀ (i : Nat) (x : Rf), l[i]? = some x → x.k = 3 → ∃ z : Rf, (l.set j y)[i]? = some z ∧ z.k = 3 := fun i x hx h3 => by
  by_cases e : j = i
  · subst e
    exact ⟨y, by rw [List.getElem?_set]; simp [(List.getElem?_eq_some_iff.1 hx).1], hl x hx h3⟩
  · exact ⟨x, by rw [List.getElem?_set, if_neg e]; exact hx, h3⟩
theorem keep_lend (l : List Rf) (n : Int) : ∀ (i : Nat) (x : Rf), l[i]? = some x → x.k = 3 → ∃ z : Rf, (lendL l n).1[i]? = some z ∧ z.k = 3 := by
  unfold lendL
  split
  · rename_i j y hn
    obtain ⟨_, hy⟩ := named_some hn
    split
    · exact fun i x hx h3 => ⟨x, hx, h3⟩
    · rename_i h3
      split
      · exact keep_set (fun x hx h => absurd h (by rw [hy] at hx; cases hx; exact h3))
      · exact fun i x hx h3 => ⟨x, hx, h3⟩
  · exact fun i x hx h3 => ⟨x, hx, h3⟩
theorem keep_over (l : List Rf) (n : Int) : ∀ (i : Nat) (x : Rf), l[i]? = some x → x.k = 3 → ∃ z : Rf, (overL l n).1[i]? = some z ∧ z.k = 3 := by
  unfold overL
  split
  · split
    · exact fun i x hx h3 => ⟨x, hx, h3⟩
    · exact keep_set (fun _ _ _ => rfl)
  · exact fun i x hx h3 => ⟨x, hx, h3⟩
theorem keep_end (l : List Rf) : ∀ (i : Nat) (x : Rf), l[i]? = some x → x.k = 3 → ∃ z : Rf, (endL l)[i]? = some z ∧ z.k = 3 := fun i x hx h3 =>
  ⟨x, by simp only [endL, List.getElem?_map, hx, Option.map_some]; rw [if_neg (by omega)], h3⟩
theorem nz_app {l : List Rf} (h : ∀ x ∈ l, ¬ x.k = 0) {y : Rf} (hy : ¬ y.k = 0) : ∀ x ∈ l ++ [y], ¬ x.k = 0 := fun x hx => by
  rcases List.mem_append.1 hx with h1 | h1
  · exact h x h1
  · simp at h1; subst h1; exact hy
theorem nz_set {l : List Rf} (h : ∀ x ∈ l, ¬ x.k = 0) {y : Rf} (hy : ¬ y.k = 0) (j : Nat) : ∀ x ∈ l.set j y, ¬ x.k = 0 := fun x hx => by
  rcases List.mem_or_eq_of_mem_set hx with h1 | h1
  · exact h x h1
  · subst h1; exact hy
theorem nz_lend {l : List Rf} (h : ∀ x ∈ l, ¬ x.k = 0) (n : Int) : ∀ x ∈ (lendL l n).1, ¬ x.k = 0 := by
  unfold lendL
  split
  · split
    · exact h
    · split
      · exact nz_set h (by simp) _
      · exact h
  · exact h
theorem nz_over {l : List Rf} (h : ∀ x ∈ l, ¬ x.k = 0) (n : Int) : ∀ x ∈ (overL l n).1, ¬ x.k = 0 := by
  unfold overL
  split
  · split
    · exact h
    · exact nz_set h (by simp) _
  · exact h
theorem nz_end {l : List Rf} (h : ∀ x ∈ l, ¬ x.k = 0) : ∀ x ∈ endL l, ¬ x.k = 0 := fun x hx => by
  obtain ⟨y, hy, rfl⟩ := List.mem_map.1 hx
  split
  · simp
  · exact h y hy
theorem lendL_len (l : List Rf) (n : Int) : (lendL l n).1.length = l.length := by
  unfold lendL
  split
  · split
    · rfl
    · split <;> simp
  · rfl
theorem overL_len (l : List Rf) (n : Int) : (overL l n).1.length = l.length := by
  unfold overL
  split
  · split <;> simp
  · rfl
theorem overL_ok {l : List Rf} {n : Int} (h : (overL l n).2 = 0) : ∃ (i : Nat) (x : Rf), n = (i : Int) + 1 ∧ (overL l n).1[i]? = some x ∧ x.k = 3 := by
  unfold overL at *
  cases hn : named l n with
  | none => rw [hn] at h; simp at h
  | some p =>
    obtain ⟨j, y⟩ := p
    obtain ⟨rfl, hy⟩ := named_some hn
    rw [hn] at h
    by_cases h3 : y.k = 3
    · simp [h3] at h
    · simp only [h3, if_false]
      exact ⟨j, ⟨y.s, y.g, 3⟩, rfl, by rw [List.getElem?_set]; simp [(List.getElem?_eq_some_iff.1 hy).1], rfl⟩
theorem overL_code (l : List Rf) (n : Int) : (overL l n).2 = 0 ∨ (overL l n).2 = 240 := by
  unfold overL
  split
  · split <;> simp
  · simp
theorem endL_len (l : List Rf) : (endL l).length = l.length := by simp [endL]
theorem endL_no2 (l : List Rf) : ∀ x ∈ endL l, ¬ x.k = 2 := by
  intro x hx
  obtain ⟨y, _, rfl⟩ := List.mem_map.1 hx
  split
  · simp
  · assumption
theorem ofKind_end (l : List Rf) : ofKind (endL l) 1 (endL l).length = ofKind l 1 l.length := by
  rw [endL_len]
  unfold ofKind
  congr 1
  funext i
  simp only [endL, List.getElem?_map]
  cases l[i]? with
  | none => rfl
  | some x =>
    simp only [Option.map_some]
    split
    · rename_i h; simp [h]
    · rfl

theorem Noted.put {H : Type} {D : DataW H} {l : List Rf} (h : Noted D l) {n : Int} (hn : WideAt.IsKeyLit (.int .u64 n)) (hl : ∃ (i : Nat) (x : Rf), n = i + 1 ∧ l[i]? = some x ∧ x.k = 3) : Noted (D.put (.int .u64 n) (.lit (.int .i64 1))) l := by
  refine ⟨h.1.put _ _, h.2.1, fun m => ?_⟩
  by_cases e : m = n
  · subst e; exact .inr hl
  · rw [Maps.atKey_put_other (by simp [e])]
    exact h.2.2 m

def stepAt (w : World) (b off i : Nat) (d s g r : Int) : Prop :=
  w.cell? ⟨b, off + i * 4, none⟩ = some (.int .i64 d) ∧ w.cell? ⟨b, off + i * 4 + 1, none⟩ = some (.int .i64 s) ∧ w.cell? ⟨b, off + i * 4 + 2, none⟩ = some (.int .u64 g) ∧ w.cell? ⟨b, off + i * 4 + 3, none⟩ = some (.int .u64 r) ∧
    (0 ≤ r ∧ r < 18446744073709551616)

/-- What holds at the head of each round, behind k steps. -/
def Head {H : Type} (w : World) (Mb n gk : Nat) (last i : Value) (wr : World) : Prop :=
  ∃ (k N : Nat) (l : List Rf) (v : Value) (D : DataW H), k ≤ n ∧ gk = n - k ∧ l.length ≤ k ∧ last = .int .u64 l.length ∧ i = .int .i64 k ∧ IsR wr w.heap.size w.heap.size v l ∧
    wr.ownsMap Try.prog 26 (plainElem Try.prog 3) Mb N D ∧ N ≤ 300 * k ∧ Noted D l ∧ Below w.heap.size w wr

/-- What holds behind the switch. -/
def Mid {H : Type} (w : World) (Mb k sb : Nat) (d s g r : Int) (last : Value) (wr : World) : Prop :=
  ∃ (N : Nat) (l : List Rf) (v : Value) (D : DataW H), l.length ≤ k + 1 ∧ last = .int .u64 l.length ∧ IsR wr w.heap.size w.heap.size v l ∧
    wr.ownsMap Try.prog 26 (plainElem Try.prog 3) Mb N D ∧ N ≤ 300 * k + 1 ∧ Noted D l ∧ (d = 4 → ∀ x ∈ l, ¬ x.k = 2) ∧ wr.heap[sb]? = some (.cells #[.int .i64 d, .int .i64 s, .int .u64 g, .int .u64 r] 31 (0, 0)) ∧ Below w.heap.size w wr

theorem ownsMap_heap {H : Type} {w w' : World} {b n : Nat} {D : DataW H} (h : w.ownsMap Try.prog 26 (plainElem Try.prog 3) b n D) (hb : w'.heap[b]? = w.heap[b]?) : w'.ownsMap Try.prog 26 (plainElem Try.prog 3) b n D := by
  obtain ⟨es, clock, h1, h2⟩ := h
  exact ⟨es, clock, hb.trans h1, h2⟩

theorem mid_of {H : Type} {w w3 w4 : World} {Mb k sb N : Nat} {d s g r : Int} {last v v4 : Value} {l l4 : List Rf} {D : DataW H} (hO3 : w3.ownsMap Try.prog 26 (plainElem Try.prog 3) Mb N D) (hBl3 : Below w.heap.size w w3)
    (hT : w3.heap[sb]? = some (.cells #[.int .i64 d, .int .i64 s, .int .u64 g, .int .u64 r] 31 (0, 0))) (hM : Mb ∉ rown w.heap.size v) (hro : ∀ q ∈ rown w.heap.size v, w.heap.size ≤ q ∧ q < sb) (hD : Noted D l) (hN : N ≤ 300 * k)
    (hI4 : IsR w4 w.heap.size w.heap.size v4 l4) (hF : Fr (rown w.heap.size v) w3 w4) (hlen : l4.length ≤ k + 1) (hl : last = .int .u64 l4.length) (hk : ∀ (i : Nat) (x : Rf), l[i]? = some x → x.k = 3 → ∃ y : Rf, l4[i]? = some y ∧ y.k = 3) (h0 : ∀ x ∈ l4, ¬ x.k = 0)
    (hd : d = 4 → ∀ x ∈ l4, ¬ x.k = 2) : Mid (H := H) w Mb k sb d s g r last w4 :=
  ⟨N, l4, v4, D, hlen, hl, hI4, ownsMap_heap hO3 (hF.block _ hO3.lt hM), by omega, hD.keep hk h0, hd,
    (hF.block _ (lt_of_block hT) (fun hm => by have := (hro _ hm).2; omega)).trans hT, hBl3.trans (hF.below hBl3.size (fun q hq => (hro q hq).1))⟩

set_option maxRecDepth 100000 in
set_option maxHeartbeats 3200000 in
theorem over_walk {H : Type} (a : Option Addr) (b off n cap : Nat) (Dd S G Rr : Nat → Int) (w : World) (hn : n ≤ 200) (ha : 0 < n → a = some ⟨b, off, none⟩ ∧ b < w.heap.size)
    (hc : ∀ i, i < n → stepAt w b off i (Dd i) (S i) (G i) (Rr i)) :
    Calls Try.prog 3 #[.slice a n cap] w fun e w' => e = .returned (.bool true) ∧ Below w.heap.size w w' := by
  have hn' : ¬ (200 : Int) < (n : Int) := by omega
  have hmm := @run_makeMap Try.prog
  go_enter Try.func3, Try.ntmps3
  go_wp2_with fail
  refine (rnew_any w).mono ?_
  rintro e w1 ⟨rfl, hI1, hb1⟩
  have HI := Lib.hid hI1
  have HB := Lib.hid hb1
  have HC := Lib.hid hc
  have HAD := Lib.hid ha
  clear hI1 hb1 hc ha
  dsimp only
  go_wp2_with fail
  have hown0 := World.ownsMap_made (H := H) w1 Try.prog 26 (plainElem Try.prog 3)
  have hbm := below_alloc w1 (.map #[] 0)
  have HI2 := Lib.hid (HI.out.below hbm)
  have HB2 := Lib.hid (HB.out.trans (hbm.mono HB.out.size))
  have HO2 := Lib.hid hown0
  have hzM := HB.out.size
  clear hown0 hbm HI HB hmm
  generalize w1.alloc (.map #[] 0) = w2 at *
  generalize w1.heap.size = Mb at *
  clear w1
  go_loopg [4, 6] n (fun gk last i wr => Head (H := H) w Mb n gk last i wr)
  case atStart => exact ⟨0, 0, [], _, _, Nat.zero_le _, rfl, Nat.zero_le _, rfl, rfl, HI2.out, HO2.out, Nat.zero_le _, ⟨⟨_, rfl⟩, fun _ h => (by cases h), fun n => .inl rfl⟩, HB2.out⟩
  case round =>
    obtain ⟨k, N, l, v, D, hk, rfl, hlk, rfl, rfl, hI, hO, hN, hD, hBl⟩ := hrel
    have HI := Lib.hid hI
    have HO := Lib.hid hO
    have HD := Lib.hid hD
    have HBl := Lib.hid hBl
    clear HI2 HO2 HB2
    by_cases hlt : k < n
    · obtain ⟨rfl, hb⟩ := HAD.out (by omega)
      obtain ⟨e0, e1, e2, e3, e4⟩ := HC.out k hlt
      generalize Dd k = d at *
      generalize S k = s at *
      generalize G k = g at *
      generalize Rr k = r at *
      have c0 := (hBl.cell (p := ⟨b, off + k * 4, none⟩) hb).trans e0
      have c1 := (hBl.cell (p := ⟨b, off + k * 4 + 1, none⟩) hb).trans e1
      have c2 := (hBl.cell (p := ⟨b, off + k * 4 + 2, none⟩) hb).trans e2
      have c3 := (hBl.cell (p := ⟨b, off + k * 4 + 3, none⟩) hb).trans e3
      have HE4 := Lib.hid e4
      have hkk : (k : Int) < (n : Int) := by omega
      have hba := below_alloc wr (.cells #[.int .i64 d, .int .i64 s, .int .u64 g, .int .u64 r] 31)
      have hsb := (heap_alloc wr (.cells #[.int .i64 d, .int .i64 s, .int .u64 g, .int .u64 r] 31)).1
      have hOw := owned_any _ (hI.below hba) (by omega)
      have HBA := Lib.hid hba
      have HSB := Lib.hid hsb
      clear e0 e1 e2 e3 e4 hI hO hD hBl hba hsb HC HAD
      go_upto_block 2 with (go_at_call 7; refine hOw.mono ?_; rintro e w3 ⟨q0, rfl, hq1, _, hq2⟩; have t := (hq2.block _ (lt_of_block HSB.out)).trans HSB.out; have s0 := cell_of_block (j := 0) t rfl; have s1 := cell_of_block (j := 1) t rfl; have s2 := cell_of_block (j := 2) t rfl; have s3 := cell_of_block (j := 3) t rfl; have HT := Lib.hid t; have HQ1 := Lib.hid hq1; have HQ2 := Lib.hid hq2; clear t hq1 hq2)
      have hb3 : Below wr.heap.size wr w3 := HBA.out.trans (HQ2.out.mono HBA.out.size)
      have hI3 := HI.out.below hb3
      have hO3 := ownsMap_heap HO.out (hb3.block _ HO.out.lt)
      have hBl3 := HBl.out.trans (hb3.mono HBl.out.size)
      have hsb0 := HBl.out.size
      have hro := rown_lt HI.out
      have hMb := HO.out.lt
      have hMr : Mb ∉ rown w.heap.size v := fun hm => by
        obtain ⟨es, cl, hh, _⟩ := HO.out
        simp only [rown, List.mem_cons, Option.mem_toList] at hm
        rcases hm with rfl | hm
        · rw [HI.out.bl] at hh; cases hh
        · rcases HI.out.row.2 with ⟨e, _⟩ | ⟨g, cc, cur, e, _, h4, _⟩
          · rw [e] at hm; cases hm
          · rw [e] at hm; simp only [Value.ownBlock, Option.some.injEq] at hm; subst hm; rw [h4] at hh; cases hh
      have HI3 := Lib.hid hI3
      have HO3 := Lib.hid hO3
      have HBl3 := Lib.hid hBl3
      have HRO := Lib.hid hro
      have HMR := Lib.hid hMr
      have hz3 := hBl3.size
      have hsb3 := lt_of_block HT.out
      have hq0 : ∃ qa qc, q0 = .slice qa (ofKind l 1 l.length).length qc := by
        rcases HQ1.out.2 with ⟨e, e1⟩ | ⟨g, cc, _, e, _⟩
        · exact ⟨none, 0, by rw [e, e1]⟩
        · exact ⟨_, cc, e⟩
      obtain ⟨qa, qc, rfl⟩ := hq0
      clear hb3 hI3 hO3 hBl3 hro hMr HBA HSB HQ2 HI HO HBl c0 c1 c2 c3
      generalize hsb : wr.heap.size = sb at *
      go_cut [4, 9, 10, 11, 12, 13, 14] from 24 to 149 (fun last _ _ _ _ _ _ wc => Mid (H := H) w Mb k sb d s g r last wc)
      case first =>
        by_cases h0 : d = 0
        · subst h0
          have hC := own_any HI3.out (by omega) hz3 s g
          unfold ky at hC
          go_wp2_with fail
          refine hC.mono ?_
          rintro e w4 ⟨rfl, v4, hI4, hF4⟩
          have HI4 := Lib.hid hI4
          have HF4 := Lib.hid hF4
          clear hI4 hF4 hC
          dsimp only
          go_wp2_with fail
          go_meet
          case rel => exact mid_of HO3.out HBl3.out HT.out HMR.out HRO.out HD.out hN HI4.out HF4.out (by simp; omega) (by simp) (keep_app l _) (nz_app HD.out.2.1 (by simp)) (by omega)
        · have g0 : (d == 0) = false := by simpa using h0
          by_cases h1 : d = 1
          · subst h1
            have hC := lent_any HI3.out (by omega) hz3 s g
            unfold ky at hC
            go_wp2_with fail
            refine hC.mono ?_
            rintro e w4 ⟨rfl, v4, hI4, hF4⟩
            have HI4 := Lib.hid hI4
            have HF4 := Lib.hid hF4
            clear hI4 hF4 hC
            dsimp only
            go_wp2_with fail
            go_meet
            case rel => exact mid_of HO3.out HBl3.out HT.out HMR.out HRO.out HD.out hN HI4.out HF4.out (by simp; omega) (by simp) (keep_app l _) (nz_app HD.out.2.1 (by simp)) (by omega)
          · have g1 : (d == 1) = false := by simpa using h1
            by_cases h2 : d = 2
            · subst h2
              have hC := lend_any HI3.out (by omega) r HE4.out.1 HE4.out.2
              go_wp2_with fail
              refine hC.mono ?_
              rintro e w4 ⟨rfl, hI4, hF4⟩
              have HI4 := Lib.hid hI4
              have HF4 := Lib.hid hF4
              clear hI4 hF4 hC
              dsimp only
              go_wp2_with fail
              go_meet
              case rel => exact mid_of HO3.out HBl3.out HT.out HMR.out HRO.out HD.out hN HI4.out HF4.out (by rw [lendL_len]; omega) (by rw [lendL_len]) (keep_lend l r) (nz_lend HD.out.2.1 r) (by omega)
            · have g2 : (d == 2) = false := by simpa using h2
              by_cases h3 : d = 3
              · subst h3
                have hC := over_any HI3.out (by omega) r HE4.out.1 HE4.out.2
                go_wp2_with fail
                refine hC.mono ?_
                rintro e w4 ⟨rfl, hI4, hF4⟩
                have HI4 := Lib.hid hI4
                have HF4 := Lib.hid hF4
                have hT4 := (hF4.block _ (lt_of_block HT.out) (fun hm => by have := (HRO.out _ hm).2; omega)).trans HT.out
                have s4 := cell_of_block (j := 3) hT4 rfl
                have hO4 := ownsMap_heap HO3.out (hF4.block _ HO3.out.lt HMR.out)
                have hz4 := lt_of_block hT4
                have HT4 := Lib.hid hT4
                clear hI4 hF4 hC hT4
                dsimp only
                rcases overL_code l r with hcode | hcode
                · obtain ⟨i, x, hr1, hx1, hx2⟩ := overL_ok hcode
                  have hkey : keyOf Try.prog 26 (.int .u64 r) = some (.int .u64 r) := Maps.keyOf_int_mk Try.underlying26 (wf_u64 HE4.out)
                  have hNm : N < maxLen := by unfold maxLen; omega
                  have HX := Lib.hid (show ∃ (i : Nat) (x : Rf), r = (i : Int) + 1 ∧ (overL l r).1[i]? = some x ∧ x.k = 3 from ⟨i, x, hr1, hx1, hx2⟩)
                  rw [hcode]
                  clear hr1 hx1 hx2 hcode
                  go_wp2_with (at_mapUpdate; go_must (refine wpList_mapUpdate_own _ rfl _ _ _ 27 rfl 26 3 keyed26 Try.underlying27 _ Mb N D rfl hO4 hNm _ _ _ rfl rfl hkey _ [] (plainElem_int Try.underlying3 (by decide)) ?_; intro w5 hown5 hgrow5; have HO5 := Lib.hid hown5; have HG5 := Lib.hid hgrow5; clear hown5 hgrow5))
                  go_meet
                  case rel =>
                    have hne : ∀ q ∈ rown w.heap.size v, some q ≠ some Mb := fun q hq e => HMR.out (by cases e; exact hq)
                    have hkeep : ∀ q, q < w4.heap.size → q ≠ Mb → w5.heap[q]? = w4.heap[q]? := fun q hq he => HG5.out.block q hq (fun e => he (Option.some.inj e))
                    have hB4 : Below w.heap.size w w4 := HBl3.out.trans (HF4.out.below hz3 (fun q hq => (HRO.out q hq).1))
                    refine ⟨N + 1, (overL l r).1, v, _, by rw [overL_len]; omega, by rw [overL_len], HI4.out.heap fun q hq => hkeep q (rown_lt HI4.out q hq).2 (fun e => HMR.out (e ▸ hq)), HO5.out, by omega, (HD.out.keep (keep_over l r) (nz_over HD.out.2.1 r)).put ?_ HX.out, by omega, ?_, ?_⟩
                    · trivial
                    · rw [hkeep sb hz4 (fun e => by
                        obtain ⟨es, cl, hh, _⟩ := hO4
                        rw [← e, HT4.out] at hh
                        cases hh)]
                      exact HT4.out
                    · exact hB4.grown HG5.out hB4.size (fun q e => by cases e; exact hzM)
                · rw [hcode]
                  go_wp2_with fail
                  go_meet
                  case rel => exact mid_of HO3.out HBl3.out HT.out HMR.out HRO.out HD.out hN HI4.out HF4.out (by rw [overL_len]; omega) (by rw [overL_len]) (keep_over l r) (nz_over HD.out.2.1 r) (by omega)
              · have g3 : (d == 3) = false := by simpa using h3
                by_cases h4 : d = 4
                · subst h4
                  have hE := endLent_any w3 HI3.out (by omega)
                  go_wp2_with fail
                  refine hE.mono ?_
                  rintro e w4 ⟨rfl, hI4, hF4⟩
                  have hOw2 := owned_any w4 hI4 (by rw [endL_len]; omega)
                  rw [ofKind_end] at hOw2
                  have HI4 := Lib.hid hI4
                  have HF4 := Lib.hid hF4
                  clear hI4 hF4 hE
                  dsimp only
                  go_wp2_with fail
                  refine hOw2.mono ?_
                  rintro e w5 ⟨q1, rfl, hq1, _, hb5⟩
                  have hq0' : ∃ qa qc, q1 = .slice qa (ofKind l 1 l.length).length qc := by
                    rcases hq1.2 with ⟨e, e1⟩ | ⟨g, cc, _, e, _⟩
                    · exact ⟨none, 0, by rw [e, e1]⟩
                    · exact ⟨_, cc, e⟩
                  obtain ⟨qa1, qc1, rfl⟩ := hq0'
                  have hq04 := ownsRow_keep HQ1.out (w' := w5) (fun q hq => by
                    have h1 := HQ1.out.lt q hq
                    have h2 : q ∉ rown w.heap.size v := fun hm => by
                      have := (HRO.out q hm).2
                      simp at h1
                      omega
                    rw [hb5.block q (Nat.lt_of_lt_of_le h1.2 HF4.out.size), HF4.out.block q h1.2 h2])
                  have HQ04 := Lib.hid hq04
                  have HQ14 := Lib.hid hq1
                  have HB5 := Lib.hid hb5
                  have hm : (ofKind l 1 l.length).length ≤ 200 := by have := ofKind_len l 1 l.length; omega
                  clear hq04 hq1 hb5 hOw2
                  generalize hxs : ofKind l 1 l.length = xs at *
                  clear hxs
                  dsimp only
                  go_wp2_with fail
                  go_loopg [14] xs.length (fun gk i wq => ∃ j : Nat, j ≤ xs.length ∧ gk = xs.length - j ∧ i = .int .i64 j ∧ Below w5.heap.size w5 wq)
                  case atStart => exact ⟨0, Nat.zero_le _, rfl, rfl, Below.refl _ _⟩
                  case round =>
                    obtain ⟨j, hj, rfl, rfl, hbq⟩ := hrel
                    by_cases hlt2 : j < xs.length
                    · have hjj : (j : Int) < (xs.length : Int) := by omega
                      obtain ⟨y, hy⟩ : ∃ y, xs[j]? = some y := ⟨_, List.getElem?_eq_getElem hlt2⟩
                      have hny : (nums xs)[j]? = some (.int .u64 ((y : Int) + 1)) := by simp [nums, num1, hy]
                      obtain ⟨g0', rfl⟩ : ∃ g', qa = some ⟨g', 0, none⟩ := by
                        rcases HQ04.out.2 with ⟨_, e1⟩ | ⟨g', _, _, e, _⟩
                        · omega
                        · simp at e; exact ⟨g', e.1⟩
                      obtain ⟨g1', rfl⟩ : ∃ g', qa1 = some ⟨g', 0, none⟩ := by
                        rcases HQ14.out.2 with ⟨_, e1⟩ | ⟨g', _, _, e, _⟩
                        · omega
                        · simp at e; exact ⟨g', e.1⟩
                      have t0 := (HQ04.out.cellAt j (by omega)).trans hny
                      have t1 := (HQ14.out.cellAt j (by omega)).trans hny
                      have z0 := (HQ04.out.lt g0' rfl).2
                      have z1 := (HQ14.out.lt g1' rfl).2
                      have hbx : ∀ x, Below w5.heap.size w5 (ext wr x) := fun x => hbq.trans ((below_ext wr x).mono hbq.size)
                      have f0 : ∀ x, (ext wr x).cell? ⟨g0', j, none⟩ = some (.int .u64 ((y : Int) + 1)) := fun x => ((hbx x).cell (p := ⟨g0', j, none⟩) z0).trans t0
                      have f1 : ∀ x, (ext wr x).cell? ⟨g1', j, none⟩ = some (.int .u64 ((y : Int) + 1)) := fun x => ((hbx x).cell (p := ⟨g1', j, none⟩) z1).trans t1
                      have HBX := Lib.hid hbx
                      clear t0 t1 hbx hny hy hbq
                      go_wp2_with fail
                      refine region_ext (by kernel_rfl) (by kernel_rfl) ?_
                      repeat (go_big_quiet_step (fail))
                      refine wpQuiet_nil ?_
                      rintro _ ⟨x, rfl⟩
                      have HBX2 := Lib.hid (HBX.out x)
                      clear f0 f1 HBX
                      generalize ext wr x = wx at *
                      go_wp2_with fail
                      go_roundg (xs.length - (j + 1))
                      case measure => omega
                      case rel => exact ⟨j + 1, by omega, rfl, by go_num, HBX2.out⟩
                    · obtain rfl : j = xs.length := by omega
                      have hjj : ¬ (xs.length : Int) < (xs.length : Int) := by omega
                      have HBQ := Lib.hid hbq
                      clear hbq
                      go_wp2_with fail
                      go_meet
                      case rel =>
                        have hb6 : Below w4.heap.size w4 wr := HB5.out.trans (HBQ.out.mono HB5.out.size)
                        exact mid_of HO3.out HBl3.out HT.out HMR.out HRO.out HD.out hN (HI4.out.below hb6) (HF4.out.trans ((Fr.of_below hb6 _))) (by rw [endL_len]; omega) (by rw [endL_len]) (keep_end l) (nz_end HD.out.2.1) (fun _ => endL_no2 l)
                · have g4 : (d == 4) = false := by simpa using h4
                  go_wp2_with fail
                  go_meet
                  case rel => exact mid_of HO3.out HBl3.out HT.out HMR.out HRO.out HD.out hN HI3.out (Fr.refl _ _) (by omega) rfl (fun i x hx h3 => ⟨x, hx, h3⟩) HD.out.2.1 (fun e => absurd e h4)
      case rest =>
        obtain ⟨N1, l1, v1, D1, hl1, rfl, hI1, hO1, hN1, hD1, hd1, hs1, hB1⟩ := hcut
        clear HI3 HO3 HBl3 HRO HMR HD HT HQ1 s0 s1 s2 s3
        have hMs : Mb ≠ sb := fun e => by
          obtain ⟨es, cl, hh, _⟩ := hO1
          rw [e, hs1] at hh
          cases hh
        have HI1 := Lib.hid hI1
        have HO1 := Lib.hid hO1
        have HD1 := Lib.hid hD1
        have Hd1 := Lib.hid hd1
        have HS1 := Lib.hid hs1
        have HB1 := Lib.hid hB1
        clear hI1 hO1 hD1 hd1 hs1 hB1
        go_wp2_with fail
        go_loopg [15] l1.length (fun gk i wq => ∃ (j N2 : Nat) (D2 : DataW H), j ≤ l1.length ∧ gk = l1.length - j ∧ i = .int .u64 ((j : Int) + 1) ∧ IsR wq w.heap.size w.heap.size v1 l1 ∧ wq.ownsMap Try.prog 26 (plainElem Try.prog 3) Mb N2 D2 ∧
          N2 ≤ 300 * k + 1 + j ∧ Noted D2 l1 ∧ wq.heap[sb]? = some (.cells #[.int .i64 d, .int .i64 s, .int .u64 g, .int .u64 r] 31 (0, 0)) ∧ Below w.heap.size w wq)
        case atStart => exact ⟨0, N1, D1, Nat.zero_le _, rfl, rfl, HI1.out, HO1.out, by omega, HD1.out, HS1.out, HB1.out⟩
        case round =>
          obtain ⟨j, N2, D2, hj, rfl, rfl, hI2, hO2, hN2, hD2, hs2, hB2⟩ := hrel
          clear HI1 HO1 HD1 HS1 HB1
          by_cases hlt2 : j < l1.length
          · obtain ⟨x, hx⟩ : ∃ x, l1[j]? = some x := ⟨_, List.getElem?_eq_getElem hlt2⟩
            have hF := rof_some hI2 (by omega) j hx
            have hjj : (j : Int) + 1 ≤ (l1.length : Int) := by omega
            have hx0 : (x.k == 0) = false := by simpa using hD2.2.1 x (List.mem_of_getElem? hx)
            have hkey : keyOf Try.prog 26 (.int .u64 ((j : Int) + 1)) = some (.int .u64 ((j : Int) + 1)) := Maps.keyOf_int_mk Try.underlying26 (wf_u64 (by omega))
            have hNm : N2 < maxLen := by unfold maxLen; omega
            have HX := Lib.hid hx
            have HI2 := Lib.hid hI2
            have HO2 := Lib.hid hO2
            have HD2 := Lib.hid hD2
            have HS2 := Lib.hid hs2
            have HB2 := Lib.hid hB2
            clear hx hI2 hO2 hD2 hs2 hB2
            unfold ky at hF
            go_wp2_with fail
            refine hF.mono ?_
            rintro e w6 ⟨rfl, hb6⟩
            have hba := hb6.trans ((below_alloc w6 (.cells #[.int .i64 x.s, .int .u64 x.g] 29)).mono hb6.size)
            have hI7 := HI2.out.below hba
            have hO7 := ownsMap_heap HO2.out (hba.block _ HO2.out.lt)
            have hs7 := (hba.block _ (lt_of_block HS2.out)).trans HS2.out
            have hB7 := HB2.out.trans (hba.mono HB2.out.size)
            have u0 := cell_of_block (j := 0) hs7 rfl
            have hz7 := lt_of_block hs7
            have HI7 := Lib.hid hI7
            have HB7 := Lib.hid hB7
            have HS7 := Lib.hid hs7
            clear hb6 hba hI7 hB7 hF hs7 HI2 HO2 HS2 HB2
            dsimp only
            generalize hw7 : w6.alloc (.cells #[.int .i64 x.s, .int .u64 x.g] 29) = w7 at *
            obtain ⟨c, hrun, hat, hwc⟩ := hO7.lookup_int keyed26 Try.underlying27 Try.underlying3 (zeroR3 _) hkey
            clear hwc
            have hnext : ∀ (W : World), Below w7.heap.size w7 W → ∃ (j' N2 : Nat) (D2 : DataW H), j' ≤ l1.length ∧ l1.length - (j + 1) = l1.length - j' ∧ Value.int .u64 ((j : Int) + 1 + 1) = .int .u64 ((j' : Int) + 1) ∧ IsR W w.heap.size w.heap.size v1 l1 ∧ W.ownsMap Try.prog 26 (plainElem Try.prog 3) Mb N2 D2 ∧
                N2 ≤ 300 * k + 1 + j' ∧ Noted D2 l1 ∧ W.heap[sb]? = some (.cells #[.int .i64 d, .int .i64 s, .int .u64 g, .int .u64 r] 31 (0, 0)) ∧ Below w.heap.size w W := fun W hW =>
              ⟨j + 1, N2, D2, by omega, rfl, by go_num, HI7.out.below hW, ownsMap_heap hO7 (hW.block _ hO7.lt), by omega, HD2.out, (hW.block _ (lt_of_block HS7.out)).trans HS7.out, HB7.out.trans (hW.mono HB7.out.size)⟩
            have HNX := Lib.hid hnext
            clear hnext
            by_cases h3 : x.k = 3
            · obtain ⟨xs, xg, xk⟩ := x
              change xk = 3 at h3
              subst h3
              clear hx0 hat
              dsimp only
              have hput : ∀ W, W.ownsMap Try.prog 26 (plainElem Try.prog 3) Mb (N2 + 1) (D2.put (.int .u64 ((j : Int) + 1)) (.lit (.int .i64 1))) → w7.grownBy W (some Mb) →
                  ∃ (j' N2 : Nat) (D2 : DataW H), j' ≤ l1.length ∧ l1.length - (j + 1) = l1.length - j' ∧ Value.int .u64 ((j : Int) + 1 + 1) = .int .u64 ((j' : Int) + 1) ∧ IsR W w.heap.size w.heap.size v1 l1 ∧ W.ownsMap Try.prog 26 (plainElem Try.prog 3) Mb N2 D2 ∧
                    N2 ≤ 300 * k + 1 + j' ∧ Noted D2 l1 ∧ W.heap[sb]? = some (.cells #[.int .i64 d, .int .i64 s, .int .u64 g, .int .u64 r] 31 (0, 0)) ∧ Below w.heap.size w W := fun W hO hG => by
                have hkeep : ∀ q, q < w7.heap.size → q ≠ Mb → W.heap[q]? = w7.heap[q]? := fun q hq he => hG.block q hq (fun e => he (Option.some.inj e))
                have hMr : Mb ∉ rown w.heap.size v1 := fun hm => by
                  obtain ⟨es, cl, hh, _⟩ := hO7
                  simp only [rown, List.mem_cons, Option.mem_toList] at hm
                  rcases hm with rfl | hm
                  · rw [HI7.out.bl] at hh; cases hh
                  · rcases HI7.out.row.2 with ⟨e, _⟩ | ⟨g, cc, cur, e, _, h4, _⟩
                    · rw [e] at hm; cases hm
                    · rw [e] at hm; simp only [Value.ownBlock, Option.some.injEq] at hm; subst hm; rw [h4] at hh; cases hh
                refine ⟨j + 1, N2 + 1, _, by omega, rfl, by go_num, HI7.out.heap fun q hq => hkeep q (rown_lt HI7.out q hq).2 (fun e => hMr (e ▸ hq)), hO, by omega, HD2.out.put trivial ⟨j, _, rfl, HX.out, rfl⟩, ?_, ?_⟩
                · rw [hkeep sb hz7 (Ne.symm hMs)]; exact HS7.out
                · exact HB7.out.grown hG HB7.out.size (fun q e => by cases e; exact hzM)
              have HPUT := Lib.hid hput
              clear hput
              by_cases h4 : d = 4
              · subst h4
                by_cases hc0 : 0 < c
                all_goals
                  go_wp2_with (at_mapUpdate; go_must (refine wpList_mapUpdate_own _ rfl _ _ _ 27 rfl 26 3 keyed26 Try.underlying27 _ Mb N2 D2 rfl hO7 hNm _ _ _ rfl rfl hkey _ [] (plainElem_int Try.underlying3 (by decide)) ?_; intro w8 hown8 hgrow8; have HO8 := Lib.hid hown8; have HG8 := Lib.hid hgrow8; clear hown8 hgrow8))
                  go_roundg (l1.length - (j + 1))
                  case measure => omega
                  case rel => exact HPUT.out _ HO8.out HG8.out
              · have g4 : (d == 4) = false := by simpa using h4
                clear h4
                by_cases hc0 : 0 < c
                all_goals
                  go_wp2_with (at_mapUpdate; go_must (refine wpList_mapUpdate_own _ rfl _ _ _ 27 rfl 26 3 keyed26 Try.underlying27 _ Mb N2 D2 rfl hO7 hNm _ _ _ rfl rfl hkey _ [] (plainElem_int Try.underlying3 (by decide)) ?_; intro w8 hown8 hgrow8; have HO8 := Lib.hid hown8; have HG8 := Lib.hid hgrow8; clear hown8 hgrow8))
                  go_roundg (l1.length - (j + 1))
                  case measure => omega
                  case rel => exact HPUT.out _ HO8.out HG8.out
            · have g3 : (x.k == 3) = false := by simpa using h3
              have hzero : D2.atKey (.int .u64 ((j : Int) + 1)) (.lit (.int .i64 0)) = .lit (.int .i64 0) := by
                rcases HD2.out.2.2 ((j : Int) + 1) with h | ⟨i, y, h1, h2, h5⟩
                · exact h
                · exfalso
                  obtain rfl : i = j := by omega
                  rw [HX.out] at h2
                  cases h2
                  exact h3 h5
              obtain rfl : c = 0 := by rw [hzero] at hat; cases hat; rfl
              clear h3 hzero hat
              by_cases h4 : d = 4
              · have g4 : (x.k == 2) = false := by simpa using Hd1.out h4 x (List.mem_of_getElem? HX.out)
                subst h4
                go_wp2_with fail
                go_roundg (l1.length - (j + 1))
                case measure => omega
                case rel => exact HNX.out _ (Below.refl _ _)
              · have g4 : (d == 4) = false := by simpa using h4
                clear h4
                go_wp2_with fail
                go_roundg (l1.length - (j + 1))
                case measure => omega
                case rel => exact HNX.out _ (Below.refl _ _)
          · obtain rfl : j = l1.length := by omega
            have hjj : ¬ ((l1.length : Int) + 1) ≤ (l1.length : Int) := by omega
            have HI2 := Lib.hid hI2
            have HO2 := Lib.hid hO2
            have HD2 := Lib.hid hD2
            have HB2 := Lib.hid hB2
            clear hI2 hO2 hD2 hs2 hB2
            go_wp2_with fail
            go_roundg (n - (k + 1))
            case measure => omega
            case rel => exact ⟨k + 1, N2, l1, v1, D2, by omega, rfl, hl1, rfl, by go_num, HI2.out, HO2.out, by omega, HD2.out, HB2.out⟩
    · obtain rfl : k = n := by omega
      have hkk : ¬ (k : Int) < (k : Int) := by omega
      have hWk := rworks_any wr
      clear HI HO HD HC HAD
      go_wp2_with fail
      refine hWk.mono ?_
      rintro e w3 ⟨rfl, hb3⟩
      have hb4 := HBl.out.trans (hb3.mono HBl.out.size)
      clear hb3 hWk HBl
      dsimp only
      go_wp2_with fail
      go_ret
      exact ⟨rfl, hb4⟩

end Go.Proofs.Ytijiffgfodlepaa
