/- The functions that FnExactFormatReport comes to: what each gives, for all arguments of its type, within the bounds that its own theorem names. -/
import Derived.Test.YtgeocanldpolpaaDoorFacts
import Derived.Test.YtgeocanldpolpaaDoorM3Lib
import Derived.Test.YtgeocanldpolpaaDoorShelf
set_option linter.unusedVariables false
namespace Go.Proofs
open Go.M3

instance : Tabs := ⟨[("internal/strconv.uint64pow10", (Lib.pow10Tab.map fun z => Value.int .u64 z).toArray)]⟩


def ints (l : List Int) : AV := .lst (l.map fun n => [.int .i64 n])

def szI (l : List Int) (n : Int) : Int := (if IntKind.i64.wrap (n - l.length) < 0 then -1 else IntKind.i64.wrap (n - l.length))
theorem szIntS_ok (l : List Int) (n : Int) : VCall Tryd.prog 9 [ints l, .int .i64 n] (.int .i64 (szI l n)) := by
  refine VCall.of_body An.none 1 Tryd.func9 rfl (by kernel_rfl) (by kernel_rfl) (by kernel_rfl) ?_
  simp [ints, Tryd.results9, Tryd.ntmps9]
  unfold szI
  split <;> omega

theorem toIntS_ok (l : List Int) (hl : l.length ≤ 1048576) : VCall Tryd.prog 12 [ints l] (ints l) := by
  refine VCall.of_body An.none 3 Tryd.func12 rfl (by kernel_rfl) (by kernel_rfl) (by kernel_rfl) ?_
  rcases l with _ | ⟨x, xs⟩
  · simp [ints, Tryd.results12, Tryd.ntmps12]
    refine W_once ?_
    simp
  · generalize hL : x :: xs = l at hl
    have hne : l ≠ [] := by rw [← hL]; simp
    simp [ints, Tryd.results12, Tryd.ntmps12, hne]
    refine ⟨⟨by omega, by omega⟩, ?_⟩
    refine W_up (fun k σ => σ.n = 22 ∧ σ.t 0 = .lst (l.map fun n => [.int .i64 n]) ∧ σ.t 3 = .own 0 1 0 l.length ∧ σ.t 4 = .int .i64 k ∧
      σ.h.blk 0 = some ⟨true, filled (fun n => [.int .i64 n]) [.int .i64 0] l k⟩) l.length ?_ ?_
    · simp [filled_zero]
    · rintro k ⟨n', t, h⟩ hk ⟨rfl, h0, h3, h4, hb⟩
      simp only at h0 h3 h4 hb
      simp [h0, h3, h4, hb]
      refine ⟨fun hlt => ?_, fun hge => ?_⟩
      · simp [filled_get hlt, hlt, hb, h0, h3, h4]
        rw [filled_set hlt]
        exact ⟨wrap64 (by omega) (by omega), rfl⟩
      · have : k = l.length := by omega
        subst this
        simp [filled_all]

theorem ne_iff (a b : Int) : (a == b) = decide (a = b) := by cases h : a == b <;> simp_all
theorem eqIntS_ok (l m : List Int) (hl : l.length ≤ 1048576) : VCall Tryd.prog 15 [ints l, ints m] (.bool (decide (l = m))) := by
  refine VCall.of_body An.none 3 Tryd.func15 rfl (by kernel_rfl) (by kernel_rfl) (by kernel_rfl) ?_
  simp [ints, Tryd.results15, Tryd.ntmps15]
  refine ⟨fun hne e => hne (by rw [e]), fun heq => ?_⟩
  have heq : l.length = m.length := by omega
  refine W_up (fun k σ => σ.n = 26 ∧ σ.t 0 = .lst (l.map fun n => [.int .i64 n]) ∧ σ.t 1 = .lst (m.map fun n => [.int .i64 n]) ∧ σ.t 5 = .int .i64 k ∧ l.take k = m.take k) l.length ?_ ?_
  · simp
  · rintro k ⟨n', t, h⟩ hk ⟨rfl, h0, h1, h5, ht⟩
    simp only at h0 h1 h5 ht
    simp [h0, h1, h5]
    refine ⟨fun hlt => ?_, fun hge => ?_⟩
    · have hlt' : k < m.length := by omega
      simp [List.getElem?_eq_getElem hlt, List.getElem?_eq_getElem hlt', h0, h1, h5, hlt]
      refine ⟨fun hne e => hne (by simp [e]), fun he => ⟨wrap64 (by omega) (by omega), ?_⟩⟩
      rw [List.take_add_one, List.take_add_one, ht, List.getElem?_eq_getElem hlt, List.getElem?_eq_getElem hlt', he]
    · have e1 : l.take k = l := List.take_of_length_le hge
      have e2 : m.take k = m := List.take_of_length_le (by omega)
      rw [e1, e2] at ht
      simp [ht]
theorem szReport_ok (l m : List Int) (k n : Int) : VCall Tryd.prog 4 [.agg [ints l, ints m, .int .i64 k], .int .i64 n] (.int .i64 (if szI l n < 0 then -1 else if szI m (szI l n) < 0 then -1 else szI m (szI l n))) := by
  refine VCall.of_body An.none 1 Tryd.func4 rfl (by kernel_rfl) (by kernel_rfl) (by kernel_rfl) ?_
  simp [ints, Tryd.results4, Tryd.ntmps4]
  refine call_flat (szIntS_ok l n) 3 (by simp [ints]) (by simp) ?_
  simp
  refine ⟨fun h1 h2 => by omega, fun h1 => ?_⟩
  refine call_flat (szIntS_ok m (szI l n)) 3 (by simp [ints]) (by simp) ?_
  simp [show ¬ szI l n < 0 by omega]
  refine ⟨fun h1 h2 => by omega, fun h1 h2 => by omega⟩
theorem toReport_ok (l m : List Int) (k : Int) (hl : l.length ≤ 1048576) (hm : m.length ≤ 1048576) : VCall Tryd.prog 6 [.agg [ints l, ints m, .int .i64 k]] (.agg [ints l, ints m, .int .i64 k]) := by
  refine VCall.of_body An.none 3 Tryd.func6 rfl (by kernel_rfl) (by kernel_rfl) (by kernel_rfl) ?_
  simp [ints, Tryd.results6, Tryd.ntmps6]
  refine call_view (toIntS_ok l hl) 3 (by simp [ints]) ?_
  simp [ints]
  refine call_view (toIntS_ok m hm) 3 (by simp [ints]) ?_
  simp [ints]
theorem eqReport_ok (l m : List Int) (k : Int) (l' m' : List Int) (k' : Int) (hl : l.length ≤ 1048576) (hm : m.length ≤ 1048576) : VCall Tryd.prog 8 [.agg [ints l, ints m, .int .i64 k], .agg [ints l', ints m', .int .i64 k']] (.bool (decide (l = l' ∧ m = m' ∧ k = k'))) := by
  refine VCall.of_body An.none 3 Tryd.func8 rfl (by kernel_rfl) (by kernel_rfl) (by kernel_rfl) ?_
  simp [ints, Tryd.results8, Tryd.ntmps8]
  refine call_flat (eqIntS_ok l l' hl) 3 (by simp [ints]) (by simp) ?_
  simp
  refine ⟨fun h1 => by simp [h1], fun h1 => ?_⟩
  refine call_flat (eqIntS_ok m m' hm) 3 (by simp [ints]) (by simp) ?_
  simp
  refine ⟨fun h2 => by simp [h2], fun h2 => ?_⟩
  simp [h1, h2]
theorem l1In_ok (a b c : Int) : VCall Tryd.prog 17 [.int .i64 a, .int .i64 b, .int .i64 c] (.bool (decide (b ≤ a ∧ a ≤ c))) := by
  refine VCall.of_body An.none 3 Tryd.func17 rfl (by kernel_rfl) (by kernel_rfl) (by kernel_rfl) ?_
  simp +contextual [-Int.not_le, Tryd.results17, Tryd.ntmps17]
theorem in_ok (a b c : Int) : VCall Tryd.prog 19 [.int .i64 a, .int .i64 b, .int .i64 c] (.bool (decide (b ≤ a ∧ a ≤ c))) := by
  refine VCall.of_body An.none 3 Tryd.func19 rfl (by kernel_rfl) (by kernel_rfl) (by kernel_rfl) ?_
  simp +contextual [-Int.not_le, Tryd.results19, Tryd.ntmps19]
def anomalies : List (List UInt8) := [[110, 111, 110, 101], [108, 111, 115, 116, 32, 117, 112, 100, 97, 116, 101], [119, 114, 105, 116, 101, 32, 115, 107, 101, 119], [114, 101, 97, 100, 45, 111, 110, 108, 121, 32, 97, 110, 111, 109, 97, 108, 121], [111, 116, 104, 101, 114]]
def anomaly (k : Int) : List UInt8 := if 0 ≤ k ∧ k ≤ 4 then anomalies.getD k.toNat [] else []
theorem anomaly_length (k : Int) : (anomaly k).length ≤ 20 := by
  unfold anomaly
  split
  · obtain rfl | rfl | rfl | rfl | rfl : k = 0 ∨ k = 1 ∨ k = 2 ∨ k = 3 ∨ k = 4 := by omega
    all_goals decide
  · simp
theorem AnomalyNameS_ok (k : Int) : VCall Tryd.prog 11 [.int .i64 k] (.str ⟨(anomaly k).toArray⟩) := by
  refine VCall.of_body An.none 3 Tryd.func11 rfl (by kernel_rfl) (by kernel_rfl) (by kernel_rfl) ?_
  simp [Tryd.results11, Tryd.ntmps11]
  refine call_flat (l1In_ok k 0 4) 3 (by simp) (by simp) ?_
  simp
  refine ⟨fun h => by simp [anomaly]; omega, fun h1 h2 => ?_⟩
  obtain rfl | rfl | rfl | rfl | rfl : k = 0 ∨ k = 1 ∨ k = 2 ∨ k = 3 ∨ k = 4 := by omega
  all_goals simp [anomaly, anomalies]
theorem AnomalyNameI_ok (k : Int) : VCall Tryd.prog 14 [.int .i64 k] (.str ⟨(anomaly k).toArray⟩) := by
  refine VCall.of_body An.none 3 Tryd.func14 rfl (by kernel_rfl) (by kernel_rfl) (by kernel_rfl) ?_
  simp [Tryd.results14, Tryd.ntmps14]
  refine call_flat (in_ok k 0 4) 3 (by simp) (by simp) ?_
  simp
  refine ⟨fun h => by simp [anomaly]; omega, fun h1 h2 => ?_⟩
  obtain rfl | rfl | rfl | rfl | rfl : k = 0 ∨ k = 1 ∨ k = 2 ∨ k = 3 ∨ k = 4 := by omega
  all_goals simp [anomaly, anomalies]
theorem tmod_neg10 (m : Nat) : (-(m : Int)).tmod 10 = -((m % 10 : Nat) : Int) := by rw [Int.neg_tmod]; congr 1
theorem tdiv_neg10 (m : Nat) : (-(m : Int)).tdiv 10 = -((m / 10 : Nat) : Int) := by rw [Int.neg_tdiv]; congr 1
theorem tmod_pos10 (m : Nat) : ((m : Int)).tmod 10 = ((m % 10 : Nat) : Int) := rfl
theorem tdiv_pos10 (m : Nat) : ((m : Int)).tdiv 10 = ((m / 10 : Nat) : Int) := rfl
theorem decDigits_step {m : Nat} (h : m ≠ 0) (out : List UInt8) : Lib.decDigits m ++ out = (if m / 10 = 0 then [] else Lib.decDigits (m / 10)) ++ (UInt8.ofNat (48 + m % 10) :: out) := by
  rw [Lib.decDigits]
  by_cases h10 : m < 10
  · rw [dif_pos h10, if_pos (by omega), Nat.mod_eq_of_lt h10]; rfl
  · rw [dif_neg h10, if_neg (by omega)]; simp
theorem FormatIntS_ok (k : Int) (h1 : -9223372036854775808 ≤ k) (h2 : k ≤ 9223372036854775807) : VCall Tryd.prog 16 [.int .i64 k] (.str ⟨(Lib.itoa k).toArray⟩) := by
  refine VCall.of_body An.sealed 3 Tryd.func16 rfl (by kernel_rfl) (by kernel_rfl) (by kernel_rfl) ?_
  simp [Tryd.results16, Tryd.ntmps16]
  refine ⟨fun h => by subst h; simp [Lib.itoa, Lib.decDigits], fun h0 => ?_⟩
  refine W_loop (fun n σ => ∃ (m : Nat) (out : List UInt8) (c : Int), n = m ∧ σ.n = 31 ∧ σ.t 0 = .int .i64 c ∧ σ.t 3 = .str ⟨out.toArray⟩ ∧ σ.t 4 = .bool (decide (k < 0)) ∧ m ≤ k.natAbs ∧ (2 * out.length + m ≤ k.natAbs + 1 ∨ (m = 0 ∧ 2 * out.length ≤ k.natAbs + 2)) ∧
    ((k < 0 ∧ c = -m) ∨ (¬ k < 0 ∧ c = m)) ∧ Lib.decDigits k.natAbs = (if m = 0 then [] else Lib.decDigits m) ++ out) k.natAbs ?_ ?_
  · refine ⟨k.natAbs, [], k, rfl, by simp, by simp, by simp, by simp, Nat.le_refl _, by simp, by omega, ?_⟩
    rw [if_neg (by omega)]; simp
  · rintro n ⟨n', t, h⟩ ⟨m, out, c, rfl, rfl, t0, t3, t4, hm, hlen, hc, hdig⟩
    simp only at t0 t3 t4
    simp [t0, t3, t4]
    refine ⟨fun hc0 => ?_, fun hc0 => ?_⟩
    · have hn : n ≠ 0 := by omega
      rw [if_neg hn, decDigits_step hn] at hdig
      have key : ∀ d : Int, d = ((n % 10 : Nat) : Int) → 1 + (out.length : Int) ≤ 9223372036854775807 ∧ ∃ n', n' < n ∧ n' ≤ k.natAbs ∧ (2 * (out.length + 1) + n' ≤ k.natAbs + 1 ∨ (n' = 0 ∧ 2 * (out.length + 1) ≤ k.natAbs + 2)) ∧
          (k < 0 ∧ IntKind.i64.wrap (c.tdiv 10) = -(n' : Int) ∨ 0 ≤ k ∧ IntKind.i64.wrap (c.tdiv 10) = n') ∧
          Lib.decDigits k.natAbs = (if n' = 0 then [] else Lib.decDigits n') ++ UInt8.ofNat (IntKind.u8.wrap (IntKind.i64.wrap (48 + d))).toNat :: out := by
        intro d hd
        refine ⟨by omega, n / 10, by omega, by omega, by omega, ?_, ?_⟩
        · rcases hc with ⟨h, rfl⟩ | ⟨h, rfl⟩
          · rw [tdiv_neg10]; exact Or.inl ⟨h, wrap64 (by omega) (by omega)⟩
          · rw [tdiv_pos10]; exact Or.inr ⟨by omega, wrap64 (by omega) (by omega)⟩
        · rw [hdig, hd, wrap64 (by omega) (by omega), wrap8 (by omega) (by omega)]
          congr 3
      refine ⟨fun hd => ?_, fun hd => ?_⟩
      · refine key _ ?_
        rcases hc with ⟨h, rfl⟩ | ⟨h, rfl⟩
        · rw [tmod_neg10, Int.neg_neg]; exact wrap64 (by omega) (by omega)
        · rw [tmod_pos10] at hd; omega
      · refine key _ ?_
        rcases hc with ⟨h, rfl⟩ | ⟨h, rfl⟩
        · rw [tmod_neg10] at hd ⊢; omega
        · exact tmod_pos10 n
    · subst hc0
      have hn : n = 0 := by omega
      subst hn
      simp at hdig
      refine ⟨fun hk => ?_, fun hk => ?_⟩
      · exact ⟨by omega, by simp [Lib.itoa, hk, hdig]⟩
      · simp [Lib.itoa, show ¬ k < 0 by omega, ← hdig]
        congr 1
        omega
theorem Itoa_ok (n : Int) (h1 : -9223372036854775808 ≤ n) (h2 : n ≤ 9223372036854775807) : VCall Tryd.prog 20 [.int .i64 n] (.str ⟨(Lib.itoa n).toArray⟩) := by
  intro w O vs hk hlt hv
  obtain ⟨x, rfl, hx⟩ := hv.one
  obtain rfl := hx.int_inv
  obtain ⟨g, _, hg, _, _⟩ := hk _ (List.mem_singleton.2 rfl)
  refine Or.inl ⟨Enters.of Tryd.func20 (by kernel_rfl) (by kernel_rfl), (Tryd.strconv_Itoa n h1 h2 w hg).mono fun e w' he => ?_⟩
  obtain ⟨rfl, k, os, rfl⟩ := he
  exact ⟨_, rfl, ST.grow w k os, .str _⟩
theorem FormatIntI_ok (n : Int) (h1 : -9223372036854775808 ≤ n) (h2 : n ≤ 9223372036854775807) : VCall Tryd.prog 18 [.int .i64 n] (.str ⟨(Lib.itoa n).toArray⟩) := by
  refine VCall.of_body An.sealed 3 Tryd.func18 rfl (by kernel_rfl) (by kernel_rfl) (by kernel_rfl) ?_
  simp [Tryd.results18, Tryd.ntmps18]
  refine call_flat (Itoa_ok n h1 h2) 3 (by simp) (by simp) ?_
  simp

def shown (l : List Int) : List UInt8 := l.flatMap fun n => 32 :: Lib.itoa n
def Ok (l : List Int) : Prop := ∀ n ∈ l, -9223372036854775808 ≤ n ∧ n ≤ 9223372036854775807
theorem nDigits_le (j : Nat) : ∀ u, u < 10 ^ (j + 1) → Lib.nDigits u ≤ j + 1 := by
  induction j with
  | zero => intro u h; rw [Lib.nDigits_small (by simpa using h)]; exact Nat.le_refl _
  | succ j ih =>
    intro u h
    by_cases h10 : u < 10
    · rw [Lib.nDigits_small h10]; omega
    · rw [Lib.nDigits_big h10]
      have := ih (u / 10) (by rw [Nat.pow_succ] at h; omega)
      omega
theorem itoa_length {n : Int} (h : -9223372036854775808 ≤ n ∧ n ≤ 9223372036854775807) : (Lib.itoa n).length ≤ 20 := by
  unfold Lib.itoa
  split
  · have := nDigits_le 18 n.natAbs (by simp; omega)
    rw [List.length_cons, Lib.decDigits_length]; omega
  · have := nDigits_le 18 n.toNat (by simp; omega)
    rw [Lib.decDigits_length]; omega
theorem shown_length {l : List Int} (h : Ok l) : (shown l).length ≤ 21 * l.length := by
  induction l with
  | nil => simp [shown]
  | cons n l ih =>
    have h1 := itoa_length (h n (by simp))
    have h2 := ih (fun m hm => h m (by simp [hm]))
    simp only [shown, List.flatMap_cons, List.length_append, List.length_cons] at h2 ⊢
    omega
theorem shown_step {l : List Int} {k : Nat} (h : k < l.length) : shown (l.take (k + 1)) = shown (l.take k) ++ 32 :: Lib.itoa l[k] := by
  unfold shown
  rw [List.take_add_one, List.getElem?_eq_getElem h, Option.toList_some, List.flatMap_append]
  simp
theorem Ok.take {l : List Int} (h : Ok l) (k : Nat) : Ok (l.take k) := fun n hn => h n (List.mem_of_mem_take hn)

theorem l32Ints_ok (l : List Int) (hl : l.length ≤ 1048576) (hb : Ok l) : VCall Tryd.prog 10 [ints l] (.str ⟨(shown (l.take 20)).toArray⟩) := by
  refine VCall.of_body An.none 3 Tryd.func10 rfl (by kernel_rfl) (by kernel_rfl) (by kernel_rfl) ?_
  simp [ints, Tryd.results10, Tryd.ntmps10]
  refine W_up (fun k σ => σ.n = 24 ∧ k ≤ 20 ∧ k ≤ l.length ∧ σ.t 0 = .lst (l.map fun n => [.int .i64 n]) ∧ σ.t 4 = .int .i64 k ∧ σ.t 3 = .str ⟨(shown (l.take k)).toArray⟩) 20 ?_ ?_
  · simp [shown]
  · rintro k ⟨n', t, h⟩ - ⟨rfl, hk, hkl, h0, h4, h3⟩
    simp only at h0 h4 h3
    have hs := shown_length (hb.take k)
    have ht : (l.take k).length ≤ 20 := by rw [List.length_take]; omega
    simp +contextual [-Int.not_le, -Int.not_lt, -Nat.not_lt, -Nat.not_le, h0, h4, h3]
    refine ⟨fun hlt => ⟨fun h20 => ⟨by omega, ?_⟩, fun h20 => by rw [show k = 20 by omega]⟩, fun hge => by rw [List.take_of_length_le (by omega), List.take_of_length_le (by omega)]⟩
    have hi := itoa_length (hb _ (List.getElem_mem hlt))
    refine call_flat (FormatIntS_ok l[k] (hb _ (List.getElem_mem hlt)).1 (hb _ (List.getElem_mem hlt)).2) 3 (by simp) (by simp) ?_
    simp [h0, h4, h3]
    rw [shown_step hlt]
    refine ⟨by omega, by omega, by omega, by omega, wrap64 (by omega) (by omega), rfl⟩
theorem listed_ok (w : List UInt8) (l : List Int) (hw : w.length ≤ 100) (hl : l.length ≤ 1048576) (hb : Ok l) : VCall Tryd.prog 13 [.str ⟨w.toArray⟩, ints l] (.str ⟨(w ++ shown (l.take 20)).toArray⟩) := by
  refine VCall.of_body An.none 3 Tryd.func13 rfl (by kernel_rfl) (by kernel_rfl) (by kernel_rfl) ?_
  have hlen : (l.take 20).length ≤ 20 := by rw [List.length_take]; omega
  have hm : (if (20 : Int) < (l.length : Int) then (20 : Int) else (l.length : Int)) = ((l.take 20).length : Int) := by
    rw [List.length_take]; split <;> omega
  have htk : ((l.map fun n => [AV.int .i64 n]).take (l.take 20).length) = ((l.take 20).map fun n => [AV.int .i64 n]) := by
    rw [← List.map_take, List.length_take, ← List.take_take]; simp
  have hle : (l.take 20).length ≤ l.length := by rw [List.length_take]; omega
  generalize hl' : l.take 20 = l' at *
  have hb' : Ok l' := hl' ▸ hb.take 20
  simp [ints, Tryd.results13, Tryd.ntmps13, hm, htk, hle]
  refine W_up (fun k σ => σ.n = 24 ∧ k ≤ l'.length ∧ σ.t 11 = .lst (l'.map fun n => [.int .i64 n]) ∧ σ.t 12 = .int .i64 l'.length ∧ σ.t 13 = .int .i64 k ∧ σ.t 0 = .str ⟨(w ++ shown (l'.take k)).toArray⟩) l'.length ?_ ?_
  · simp [shown]
  · rintro k ⟨n', t, h⟩ - ⟨rfl, hk, h0, h1, h4, h3⟩
    simp only at h0 h1 h4 h3
    have hs := shown_length (hb'.take k)
    have ht : (l'.take k).length ≤ 20 := by rw [List.length_take]; omega
    simp [h0, h1, h4, h3]
    refine ⟨fun hlt => ?_, fun hge => by rw [List.take_of_length_le (by omega)]⟩
    have hi := itoa_length (hb' _ (List.getElem_mem hlt))
    simp [h0, h1, h4, h3, hlt]
    refine call_flat (FormatIntI_ok l'[k] (hb' _ (List.getElem_mem hlt)).1 (hb' _ (List.getElem_mem hlt)).2) 3 (by simp) (by simp) ?_
    simp [h0, h1, h4, h3]
    rw [shown_step hlt]
    refine ⟨by omega, by omega, by omega, by omega, wrap64 (by omega) (by omega), rfl⟩
def report (l m : List Int) (k : Int) : List UInt8 := if m = [] then [111, 114, 100, 101, 114] ++ shown (l.take 20) else [99, 121, 99, 108, 101] ++ shown (m.take 20) ++ [32] ++ anomaly k
theorem shown20 {l : List Int} (h : Ok l) : (shown (l.take 20)).length ≤ 420 := by
  have := shown_length (h.take 20)
  rw [List.length_take] at this
  omega
theorem FormatReportS_ok (l m : List Int) (k : Int) (hl : l.length ≤ 1048576) (hm : m.length ≤ 1048576) (hbl : Ok l) (hbm : Ok m) : VCall Tryd.prog 5 [.agg [ints l, ints m, .int .i64 k]] (.str ⟨(report l m k).toArray⟩) := by
  refine VCall.of_body An.none 3 Tryd.func5 rfl (by kernel_rfl) (by kernel_rfl) (by kernel_rfl) ?_
  simp [ints, Tryd.results5, Tryd.ntmps5]
  have h1 := shown20 hbl
  have h2 := shown20 hbm
  have h3 := anomaly_length k
  refine ⟨fun he => ?_, fun he => ?_⟩
  · refine call_flat (l32Ints_ok l hl hbl) 3 (by simp [ints]) (by simp) ?_
    simp [report, he]
    omega
  · refine WDC_flat (l32Ints_ok m hm hbm) 3 (by simp [ints]) (by simp) ?_
    simp
    refine ⟨by omega, by omega, ?_⟩
    refine WDC_flat (AnomalyNameS_ok k) 3 (by simp) (by simp) ?_
    simp [report, he]
    omega
theorem FormatReportI_ok (l m : List Int) (k : Int) (hl : l.length ≤ 1048576) (hm : m.length ≤ 1048576) (hbl : Ok l) (hbm : Ok m) : VCall Tryd.prog 7 [.agg [ints l, ints m, .int .i64 k]] (.str ⟨(report l m k).toArray⟩) := by
  refine VCall.of_body An.none 3 Tryd.func7 rfl (by kernel_rfl) (by kernel_rfl) (by kernel_rfl) ?_
  simp [ints, Tryd.results7, Tryd.ntmps7]
  have h1 := shown20 hbl
  have h2 := shown20 hbm
  have h3 := anomaly_length k
  refine ⟨fun he => ?_, fun he => ?_⟩
  · refine call_flat (listed_ok [111, 114, 100, 101, 114] l (by simp) hl hbl) 3 (by simp [ints]) (by simp) ?_
    simp [report, he]
  · refine WDC_flat (listed_ok [99, 121, 99, 108, 101] m (by simp) hm hbm) 3 (by simp [ints]) (by simp) ?_
    simp
    refine ⟨by omega, ?_⟩
    refine WDC_flat (AnomalyNameI_ok k) 3 (by simp) (by simp) ?_
    simp [report, he]
    omega
theorem szI_neg {l : List Int} {n : Int} (hl : (l.length : Int) ≤ 9223372036854775807) (hn : 0 ≤ n) (hn2 : n ≤ 1048576) (h : ¬ szI l n < 0) : szI l n = n - l.length ∧ (l.length : Int) ≤ n := by
  unfold szI at h ⊢
  rw [wrap64 (by omega) (by omega)] at h ⊢
  split at h
  · omega
  · rename_i h1; rw [if_neg h1]; omega
theorem Law_ok (l m : List Int) (k : Int) (hl : (l.length : Int) ≤ 9223372036854775807) (hm : (m.length : Int) ≤ 9223372036854775807) (hbl : Ok l) (hbm : Ok m) : VCall Tryd.prog 3 [.agg [ints l, ints m, .int .i64 k]] (.bool true) := by
  refine VCall.of_body An.none 3 Tryd.func3 rfl (by kernel_rfl) (by kernel_rfl) (by kernel_rfl) ?_
  simp [ints, Tryd.results3, Tryd.ntmps3]
  refine call_flat (szReport_ok l m k 1048576) 3 (by simp [ints]) (by simp) ?_
  simp
  intro h1
  have h1 : ¬ szI l 1048576 < 0 ∧ ¬ szI m (szI l 1048576) < 0 := by
    refine ⟨fun h => ?_, fun h => ?_⟩
    · rw [if_pos h] at h1; omega
    · split at h1 <;> omega
  obtain ⟨e1, b1⟩ := szI_neg hl (by omega) (by omega) h1.1
  obtain ⟨e2, b2⟩ := szI_neg hm (by omega) (by omega) h1.2
  have hl' : l.length ≤ 1048576 := by omega
  have hm' : m.length ≤ 1048576 := by omega
  refine call_view (toReport_ok l m k hl' hm') 3 (by simp [ints]) ?_
  simp [ints]
  refine call_flat (FormatReportS_ok l m k hl' hm' hbl hbm) 4 (by simp [ints]) (by simp) ?_
  simp
  refine call_view (toReport_ok l m k hl' hm') 3 (by simp [ints]) ?_
  simp [ints]
  refine call_flat (FormatReportI_ok l m k hl' hm' hbl hbm) 4 (by simp [ints]) (by simp) ?_
  simp
  refine WDC_view (toReport_ok l m k hl' hm') 3 (by simp [ints]) ?_
  simp [ints]
  refine WDC_flat (eqReport_ok l m k l m k hl' hm') 4 (by simp [ints]) (by simp) ?_
  simp
end Go.Proofs
