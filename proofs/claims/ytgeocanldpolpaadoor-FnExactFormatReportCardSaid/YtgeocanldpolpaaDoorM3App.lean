/- append, copy, clear: soundness. -/
import Derived.Test.YtgeocanldpolpaaDoorM3Sl2
set_option linter.unusedVariables false
namespace Go.M3

section
variable {P : Program} {w : World} {O : Nat → Prop} {β : Map} {H : AH}

theorem flat_index {m : Nat} {es : List (List AV)} (hE : Even m es) (hm : m ≠ 0) {n : Nat} {c : AV} (hn : es.flatten[n]? = some c) : cellAt? es (n / m) (n % m) = some c ∧ n / m < es.length ∧ n % m < m ∧ n / m * m + n % m = n := by
  have hlt : n < es.length * m := by rw [← hE.length_flatten]; exact (List.getElem?_eq_some_iff.1 hn).1
  have hi : n / m < es.length := (Nat.div_lt_iff_lt_mul (by omega)).2 hlt
  have hjm : n % m < m := Nat.mod_lt _ (by omega)
  have hdm : n / m * m + n % m = n := by rw [Nat.mul_comm]; exact Nat.div_add_mod n m
  have hex : ∃ c', cellAt? es (n / m) (n % m) = some c' := by
    have hl : n % m < (es[n / m]'hi).length := by rw [hE _ (List.getElem_mem hi)]; exact hjm
    exact ⟨(es[n / m]'hi)[n % m]'hl, by simp [cellAt?, hi, hl]⟩
  obtain ⟨c', hce⟩ := hex
  have hfl := (Even.cell hE hce).1
  rw [hdm] at hfl
  have hcc : c = c' := by rw [hn] at hfl; simpa using hfl
  exact ⟨by rw [hcc]; exact hce, hi, hjm, hdm⟩

/-- A slice's elements and the machine's reading of them. -/
theorem src_sound {x : AV} {m : Nat} {es : List (List AV)} {y : Value} (h : srcEls H x m = some es) (hm0 : m ≠ 0) (hH : HR w O β H) (hx : VR w O β x y) :
    Even m es ∧ ∃ vs, VC w O β es.flatten vs ∧ (∀ w', (Builtin.lenOf y).run P w' = .ok es.length w') ∧ (∀ w', w'.heap = w.heap → (Builtin.firstCells m es.length y).run P w' = .ok vs.toArray w') := by
  by_cases hs : ∃ s, x = .str s
  · obtain ⟨s, rfl⟩ := hs
    cases hx
    unfold srcEls at h
    simp only at h
    split at h
    · rename_i hm1
      subst hm1
      obtain rfl := Option.some.inj h
      have hE : Even 1 (s.data.toList.map fun c => [AV.int .u8 c.toNat]) := fun e he => by
        obtain ⟨c, _, rfl⟩ := List.mem_map.1 he; rfl
      refine ⟨hE, s.data.toList.map fun c => Value.int .u8 c.toNat, ?_, fun w' => ?_, fun w' _ => ?_⟩
      · have hf : (s.data.toList.map fun c => [AV.int .u8 c.toNat]).flatten = s.data.toList.map fun c => AV.int .u8 c.toNat := by
          generalize s.data.toList = l
          induction l with
          | nil => rfl
          | cons a l ih => simp [ih]
        rw [hf]
        refine ⟨by simp, fun i c hc => ?_⟩
        simp only [List.getElem?_map] at hc ⊢
        cases hg : s.data.toList[i]? with
        | none => simp [hg] at hc
        | some b =>
          simp only [hg, Option.map_some, Option.some.injEq] at hc
          subst hc
          exact ⟨_, rfl, .int _ _⟩
      · simp [Builtin.lenOf]
      · simp only [Builtin.firstCells, Sem.run_pure, List.length_map]
        congr 1
        apply Array.ext'
        have : s.extract 0 s.data.toList.length = s := by
          have : s.data.toList.length = s.size := by simp
          rw [this]
          exact ByteArray.extract_zero_size
        simp [this]
    · cases h
  · obtain ⟨hE, a, cap, rfl, vs, hvs, hr⟩ := srcEls_sound (P := P) h hm0 hH hx (fun s e => hs ⟨s, e⟩)
    exact ⟨hE, vs, hvs, fun w' => by simp [Builtin.lenOf], hr⟩

theorem HR.same (hH : HR w O β H) {w' : World} (hh : w'.heap = w.heap) (ho : w'.os = w.os) (ht : w'.tape = w.tape) (hp : w'.output = w.output) : ST w O β w' O β ∧ HR w' O β H := by
  have hst : ST w O β w' O β := ⟨ho, ht, hp, by rw [hh]; exact Nat.le_refl _, fun k _ _ => by rw [hh], fun k _ _ => by rw [hh], fun _ _ => Iff.rfl, fun _ _ h => h, fun b L h => Or.inr ⟨b, L, h, rfl⟩⟩
  refine ⟨hst, ⟨fun b B hb => ?_, hH.inj, fun k hk => by rw [hh]; exact hH.lt k hk, hH.next⟩⟩
  obtain ⟨L, a, t, h1, h2, h3, h4, h5, h6, h7, h8⟩ := hH.live b B hb
  exact ⟨L, a, t, h1, h2, by rw [hh]; exact h3, h4, h5, h6, h7, fun i j c hcc => (h8 i j c hcc).mono hst⟩

theorem HR.regrow (hH : HR w O β H) {b0 : Nat} (hb0 : β b0 = none) {b : Nat} {B : Blk} {L : Loc} {arr arr' : Array Value} {ty : TypeId} (hb : H.blk b = some B) (hL : β b = some L) (ha : w.heap[L.k]? = some (.cells arr ty (0, 0)))
    {es : List (List AV)} {off : Nat} (hm : Even L.m es) (hsz : arr'.size = arr.size) (hle : off + es.length ≤ L.cp) (hc : VC w O β es.flatten ((arr'.toList.drop (L.o + off * L.m)).take (es.length * L.m))) :
    ST w O β (w.setRow L.k arr') O (bNew β b0 ⟨L.k, L.o + off * L.m, L.m, L.cp - off⟩) ∧ HR (w.setRow L.k arr') O (bNew β b0 ⟨L.k, L.o + off * L.m, L.m, L.cp - off⟩) ((H.kill b).new b0 ⟨false, es⟩) := by
  obtain ⟨L0, a0, t0, h1, h2, h3, h4, h5, h6, h7, h8⟩ := hH.live b B hb
  rw [hL] at h1
  obtain rfl : L = L0 := by simpa using h1
  rw [ha] at h3
  obtain ⟨rfl, rfl⟩ : arr = a0 ∧ ty = t0 := by simpa using h3
  have hst : ST w O β (w.setRow L.k arr') O (bNew β b0 ⟨L.k, L.o + off * L.m, L.m, L.cp - off⟩) :=
    ⟨rfl, rfl, rfl, by simp [World.setRow], fun k hk hO => setRow_other w L.k k arr' (fun e => hO (e ▸ h2)), fun k hk hno => setRow_other w L.k k arr' (fun e => hno b L hL e.symm), fun _ _ => Iff.rfl, fun c M hM => by
      have : c ≠ b0 := fun e => by rw [e, hb0] at hM; cases hM
      simp [bNew, this, hM], fun c M hM => by
      by_cases hcn : c = b0
      · simp only [bNew, hcn, if_true, Option.some.injEq] at hM
        subst hM
        exact Or.inr ⟨b, L, hL, rfl⟩
      · simp only [bNew, hcn, if_false] at hM
        exact Or.inr ⟨c, M, hM, rfl⟩⟩
  have hbn : b ≠ b0 := fun e => by rw [e, hb0] at hL; cases hL
  refine ⟨hst, ⟨fun c C hC => ?_, fun c c' C C' M M' hC hC' hM hM' hk => ?_, fun k hk => by have := hH.lt k hk; simpa [World.setRow] using this, fun c hcn => ?_⟩⟩
  · by_cases hcn : c = b0
    · simp only [AH.new, AH.kill, hcn, if_true, Option.some.injEq] at hC
      subst hC
      refine ⟨⟨L.k, L.o + off * L.m, L.m, L.cp - off⟩, arr', ty, by simp [bNew, hcn], h2, setRow_heap w L.k arr arr' ty _ ha, hm, by simp only; omega, ?_, by simp, fun i j d hd => ?_⟩
      · simp only
        rw [hsz, Nat.add_assoc, ← Nat.add_mul, show off + (L.cp - off) = L.cp by omega]
        exact h6
      · obtain ⟨x, hx, hv⟩ := cells_of_flat hm hc hd
        have hx' : arr'[L.o + off * L.m + (i * L.m + j)]? = some x := by
          rw [List.getElem?_take] at hx
          split at hx
          · simpa using hx
          · cases hx
        have := hv.mono hst
        simp only [Array.getD_eq_getD_getElem?, Nat.add_assoc] at hx' ⊢
        rw [hx']
        exact this
    · simp only [AH.new, AH.kill, hcn, if_false] at hC
      by_cases hcb : c = b
      · simp [hcb] at hC
      · simp only [hcb, if_false] at hC
        obtain ⟨M, a, t, g1, g2, g3, g4, g5, g6, g7, g8⟩ := hH.live c C hC
        have hne : M.k ≠ L.k := fun e => hcb (hH.inj c b C B M L hC hb g1 hL e)
        exact ⟨M, a, t, by simp [bNew, hcn, g1], g2, by rw [setRow_other w L.k M.k arr' hne]; exact g3, g4, g5, g6, g7, fun i j d hd => (g8 i j d hd).mono hst⟩
  · have hx : ∀ d D M, ((H.kill b).new b0 ⟨false, es⟩).blk d = some D → bNew β b0 ⟨L.k, L.o + off * L.m, L.m, L.cp - off⟩ d = some M → (d = b0 ∧ M.k = L.k) ∨ (d ≠ b0 ∧ d ≠ b ∧ H.blk d = some D ∧ β d = some M) := fun d D M hD hM => by
      by_cases hdn : d = b0
      · simp only [bNew, hdn, if_true, Option.some.injEq] at hM
        subst hM
        exact Or.inl ⟨hdn, rfl⟩
      · simp only [AH.new, AH.kill, hdn, if_false] at hD
        simp only [bNew, hdn, if_false] at hM
        by_cases hdb : d = b
        · simp [hdb] at hD
        · simp only [hdb, if_false] at hD
          exact Or.inr ⟨hdn, hdb, hD, hM⟩
    rcases hx c C M hC hM with ⟨rfl, h1'⟩ | ⟨g1, g2, g3, g4⟩ <;> rcases hx c' C' M' hC' hM' with ⟨rfl, h1''⟩ | ⟨f1, f2, f3, f4⟩
    · rfl
    · exact absurd (hH.inj c' b C' B M' L f3 hb f4 hL (by rw [← hk, h1'])) f2
    · exact absurd (hH.inj c b C B M L g3 hb g4 hL (by rw [hk, h1''])) g2
    · exact hH.inj c c' C C' M M' g3 f3 g4 f4 hk
  · simp only [AH.new] at hcn
    have hk : (H.kill b).next = H.next := rfl
    have : c ≠ b0 ∧ H.next ≤ c := by split at hcn <;> omega
    simp only [bNew, this.1, if_false]
    exact hH.next c this.2

/-- The cells of a part of a block. -/
theorem HR.seg (hH : HR w O β H) {b : Nat} {B : Blk} {L : Loc} {arr : Array Value} {ty : TypeId} (hb : H.blk b = some B) (hL : β b = some L) (ha : w.heap[L.k]? = some (.cells arr ty (0, 0))) (hm0 : L.m ≠ 0) {off len : Nat} (hle : off + len ≤ B.es.length) :
    Even L.m ((B.es.drop off).take len) ∧ ((B.es.drop off).take len).length = len ∧ VC w O β ((B.es.drop off).take len).flatten ((arr.toList.drop (L.o + off * L.m)).take (len * L.m)) := by
  obtain ⟨L0, a0, t0, h1, h2, h3, h4, h5, h6, h7, h8⟩ := hH.live b B hb
  rw [hL] at h1
  obtain rfl : L = L0 := by simpa using h1
  rw [ha] at h3
  obtain ⟨rfl, rfl⟩ : arr = a0 ∧ ty = t0 := by simpa using h3
  have hE : Even L.m ((B.es.drop off).take len) := fun e he => h4 e (List.mem_of_mem_drop (List.mem_of_mem_take he))
  have hlen : ((B.es.drop off).take len).length = len := by simp; omega
  have hfit : L.o + (off + len) * L.m ≤ arr.size := by
    have : (off + len) * L.m ≤ L.cp * L.m := Nat.mul_le_mul_right _ (by omega)
    omega
  rw [Nat.add_mul] at hfit
  refine ⟨hE, hlen, ?_, fun n c hn => ?_⟩
  · rw [hE.length_flatten, hlen]; simp; omega
  · obtain ⟨hce, hi, hj, hdm⟩ := flat_index hE hm0 hn
    rw [hlen] at hi
    have hce' : cellAt? B.es (off + n / L.m) (n % L.m) = some c := by
      simp only [cellAt?, List.getElem?_take, List.getElem?_drop, if_pos hi] at hce ⊢
      exact hce
    have hv := h8 _ _ _ hce'
    have hnlt : n < len * L.m := by
      have : (n / L.m + 1) * L.m ≤ len * L.m := Nat.mul_le_mul_right _ hi
      rw [Nat.add_mul] at this
      omega
    have hidx : L.o + (off + n / L.m) * L.m + n % L.m = L.o + off * L.m + n := by rw [Nat.add_mul]; omega
    rw [hidx] at hv
    have hlt : L.o + off * L.m + n < arr.size := by omega
    refine ⟨arr[L.o + off * L.m + n], ?_, by simpa [hlt] using hv⟩
    rw [List.getElem?_take, if_pos hnlt, List.getElem?_drop]
    simp [hlt]

theorem VC.mono {w w' : World} {O O' : Nat → Prop} {β β' : Map} (hst : ST w O β w' O' β') {cs : List AV} {a : List Value} (h : VC w O β cs a) : VC w' O' β' cs a :=
  ⟨h.1, fun i c hc => by obtain ⟨x, hx, hv⟩ := h.2 i c hc; exact ⟨x, hx, hv.mono hst⟩⟩

theorem notInt_cases {t2 : TypeId} (h : notInt P t2 = true) : (∃ e2, P.underlying t2 = some (.slice e2)) ∨ P.underlying t2 = some .string := by
  unfold notInt at h
  split at h
  · rename_i e2 hu; exact Or.inl ⟨e2, hu⟩
  · rename_i hu; exact Or.inr hu
  · cases h

theorem grown_big (need old bytes : Nat) (h : old < need) (hb : need * bytes ≤ 140737488355328) : ¬ (Builtin.nextslicecap need old * bytes > 281474976710656) := by
  have := growslice_fits h hb
  omega

theorem append_grows {t t2 e ty : TypeId} {i : TypeInfo} {zv : Value} {a : Option Addr} {sLen sCap n : Nat} {y : Value} {olds vs : Array Value} (hu : P.underlying t = some (.slice e)) (hi : P.info? e = some i) (hz : i.zero = some zv) (hn2 : notInt P t2 = true)
    (hlen : ∀ w', (Builtin.lenOf y).run P w' = .ok n w') (hsrc : ∀ w', w'.heap = w.heap → (Builtin.firstCells i.size n y).run P w' = .ok vs w')
    (hold : ∀ w', w'.heap = w.heap → (Builtin.firstCells i.size sLen (.slice a sLen sCap)).run P w' = .ok olds w')
    (hlt : sCap < sLen + n) (hsm : sLen + n ≤ 1099511627776) (hby : (sLen + n) * i.bytes ≤ 140737488355328) :
    (Builtin.append_ #[t, t2] ty #[.slice a sLen sCap, y]).run P w = .ok (.slice (some ⟨w.heap.size, 0, none⟩) (sLen + n) (grownCap w (sLen + n) sCap e)) (w.drew.alloc (.cells (olds ++ vs ++ Builtin.zeroCells zv.cells (grownCap w (sLen + n) sCap e - (sLen + n))) e (0, 0))) := by
  have h1 : ¬ sLen + n ≤ sCap := by omega
  have h3 := grown_big (sLen + n) sCap i.bytes hlt hby
  have h63 : ¬ (9223372036854775807 < ((sLen : Int) + (n : Int))) := by omega
  have h48 : ¬ (281474976710656 < Builtin.nextslicecap (sLen + n) sCap * i.bytes) := by omega
  have hd1 := hold w.drew rfl
  have hd2 := hsrc w.drew rfl
  rcases notInt_cases hn2 with ⟨e2, hu2⟩ | hu2 <;>
    simp [Builtin.append_, run_und hu, run_und hu2, sizeOf, typeInfo, zeroValue, hi, hz, hlen, h1, h63, h48, Question.forced, hd1, hd2, newRow, grownCap]

theorem append_fits {t t2 e ty : TypeId} {i : TypeInfo} {a : Option Addr} {sLen sCap n : Nat} {y : Value} {vs : Array Value} {w' : World} (hu : P.underlying t = some (.slice e)) (hi : P.info? e = some i) (hn2 : notInt P t2 = true)
    (hlen : ∀ w', (Builtin.lenOf y).run P w' = .ok n w') (hsrc : ∀ w', w'.heap = w.heap → (Builtin.firstCells i.size n y).run P w' = .ok vs w')
    (hle : sLen + n ≤ sCap) (hst : ∀ b, a = some b → (storeCells (b.add (sLen * i.size)) vs.toList).run P w = .ok () w') (hno : a = none → w' = w) :
    (Builtin.append_ #[t, t2] ty #[.slice a sLen sCap, y]).run P w = .ok (.slice a (sLen + n) sCap) w' := by
  have hd2 := hsrc w rfl
  cases a with
  | none =>
    obtain rfl := hno rfl
    rcases notInt_cases hn2 with ⟨e2, hu2⟩ | hu2 <;>
      simp [Builtin.append_, run_und hu, run_und hu2, sizeOf, typeInfo, hi, hlen, hle, hd2]
  | some b =>
    have := hst b rfl
    rcases notInt_cases hn2 with ⟨e2, hu2⟩ | hu2 <;>
      simp [Builtin.append_, run_und hu, run_und hu2, sizeOf, typeInfo, hi, hlen, hle, hd2, this]

theorem aAppend_sound {t t2 ty : TypeId} {s x r : AV} {H' : AH} {ys y : Value} {nx : Nat} (h : aAppend P H nx t t2 s x = some (r, H')) (hH : HR w O β H) (hnx : β nx = none) (hs : VR w O β s ys) (hx : VR w O β x y) :
    ∃ v w' O' β', (Builtin.append_ #[t, t2] ty #[ys, y]).run P w = .ok v w' ∧ ST w O β w' O' β' ∧ HR w' O' β' H' ∧ VR w' O' β' r v ∧ ∀ b, b ≠ nx → β' b = β b := by
  unfold aAppend at h
  split at h
  · rename_i e hu
    split at h
    · rename_i src z hsrc hz
      split at h
      · rename_i hcond
        obtain ⟨hne, hzl, hone, hn2⟩ := hcond
        obtain ⟨i, zv, hi, hzv, hzc⟩ := zeroCells_sound (w := w) (O := O) (β := β) hz
        have his : i.size = P.cellsOf e := by simp [Program.cellsOf, hi]
        have hib : i.bytes = P.bytesOf e := by simp [Program.bytesOf, hi]
        obtain ⟨hE, vs, hvs, hlen, hread⟩ := src_sound (P := P) hsrc hne hH hx
        rw [← his] at hread
        have hvl : vs.length = src.length * P.cellsOf e := by rw [hvs.1, hE.length_flatten]
        have hvone := hvs.one (flatten_one hone)
        have hd := hH.same (w' := w.drew) rfl rfl rfl rfl
        split at h
        · cases hs with
          | zsl a =>
            have hold : ∀ w', w'.heap = w.heap → (Builtin.firstCells i.size 0 (.slice a 0 0)).run P w' = .ok #[] w' := by
              intro w' _
              cases a with
              | none => simp [run_firstCells_none]
              | some a => simpa using run_firstCells_some (P := P) w' i.size 0 a 0 0 [] (by simp) (by simp)
            split at h
            · rename_i hb
              split at h
              · rename_i h0
                simp only [Option.some.injEq, Prod.mk.injEq] at h
                obtain ⟨rfl, rfl⟩ := h
                have hv0 : vs = [] := List.eq_nil_of_length_eq_zero (by rw [hvl, h0]; simp)
                have hr := append_fits (P := P) (w := w) (ty := ty) (w' := w) (a := a) (sLen := 0) (sCap := 0) hu hi hn2 hlen hread (by omega) (fun b _ => by simp [hv0, storeCells]) (fun _ => rfl)
                rw [h0] at hr
                exact ⟨_, w, O, β, hr, ST.refl _ _ _, hH, .zsl a, fun _ _ => rfl⟩
              · rename_i h0
                simp only [Option.some.injEq, Prod.mk.injEq] at h
                obtain ⟨rfl, rfl⟩ := h
                have hr := append_grows (P := P) (w := w) (ty := ty) (a := a) (sLen := 0) (sCap := 0) hu hi hzv hn2 hlen hread hold (by omega) (by omega) (by rw [hib, Nat.zero_add]; exact hb.2)
                simp only [Nat.zero_add] at hr
                have hge := grownCap_ge w src.length 0 e
                refine ⟨_, _, oNew w.drew O, bNew β nx ⟨w.drew.heap.size, 0, P.cellsOf e, grownCap w src.length 0 e⟩, hr, hd.1.trans (ST.new hnx _ _ rfl), HR.new hd.2 hnx hE ?_ hge ?_ (by simp), ?_, fun b hb => by simp [bNew, hb]⟩
                · have : ((#[] ++ vs.toArray ++ Builtin.zeroCells zv.cells (grownCap w src.length 0 e - src.length)).toList).take (src.length * P.cellsOf e) = vs := by
                    simp only [Array.toList_append, List.nil_append, ← hvl]
                    exact List.take_left
                  rw [this]
                  exact hvs.mono hd.1
                · have hzs : zv.cells.size = P.cellsOf e := by have := hzc.1; simp at this; omega
                  simp only [Array.size_append, List.size_toArray, List.length_nil, hvl, size_zeroCells, hzs, Nat.zero_add, ← Nat.add_mul]
                  exact Nat.mul_le_mul_right _ (by omega)
                · have := VR.own (w := w.drew.alloc (.cells (#[] ++ vs.toArray ++ Builtin.zeroCells zv.cells (grownCap w src.length 0 e - src.length)) e (0, 0))) (O := oNew w.drew O) (β := bNew β nx ⟨w.drew.heap.size, 0, P.cellsOf e, grownCap w src.length 0 e⟩) nx (P.cellsOf e) 0 src.length ⟨w.drew.heap.size, 0, P.cellsOf e, grownCap w src.length 0 e⟩ (by simp [bNew]) rfl (by simpa using hge)
                  simpa using this
            · cases h
        · rename_i b m off len
          split at h
          · rename_i B hb
            split at h
            · rename_i hcnd
              obtain ⟨rfl, hle, hsm, hby⟩ := hcnd
              simp only [Option.some.injEq, Prod.mk.injEq] at h
              obtain ⟨rfl, rfl⟩ := h
              cases hs with
              | own _ _ _ _ L hL hLm hcp =>
                obtain ⟨L0, arr, tt, h1, h2, h3, h4, h5, h6, h7, h8⟩ := hH.live b B hb
                rw [hL] at h1
                obtain rfl : L = L0 := by simpa using h1
                have hm0 : L.m ≠ 0 := by rw [hLm]; exact hne
                obtain ⟨hE1, hl1, hseg⟩ := hH.seg hb hL h3 hm0 hle
                have hE2 : Even L.m ((B.es.drop off).take len ++ src) := fun c hc => by
                  rcases List.mem_append.1 hc with hc | hc
                  · exact hE1 c hc
                  · rw [hLm]; exact hE c hc
                have hl2 : ((B.es.drop off).take len ++ src).length = len + src.length := by rw [List.length_append, hl1]
                have hfl : L.o + (off + len) * L.m ≤ arr.size := by
                  have : (off + len) * L.m ≤ L.cp * L.m := Nat.mul_le_mul_right _ (by omega)
                  omega
                have hadd : ∀ n, (⟨L.k, L.o + off * P.cellsOf e, none⟩ : Addr).add (n * i.size) = ⟨L.k, L.o + (off + n) * L.m, none⟩ := fun n => by
                  rw [Addr.add_eq, his, ← hLm, Nat.add_mul, Nat.add_assoc]
                by_cases hfit : len + src.length ≤ L.cp - off
                · have hroom : L.o + (off + len) * L.m + vs.length ≤ arr.size := by
                    rw [hvl, ← hLm]
                    have : (off + len + src.length) * L.m ≤ L.cp * L.m := Nat.mul_le_mul_right _ (by omega)
                    rw [Nat.add_mul (off + len)] at this
                    omega
                  have hst := run_storeCells_at P L.k (L.o + (off + len) * L.m) tt vs 0 arr w h3 (by simpa using hroom) hvone
                  simp only [Nat.add_zero] at hst
                  have hr := append_fits (P := P) (w := w) (ty := ty) (a := some ⟨L.k, L.o + off * P.cellsOf e, none⟩) (sLen := len) (sCap := L.cp - off) hu hi hn2 hlen hread hfit (fun c hc => by obtain rfl := Option.some.inj hc; rw [hadd]; exact hst) (fun hc => by cases hc)
                  have hsz : (arr.toList.take (L.o + (off + len) * L.m) ++ vs ++ arr.toList.drop (L.o + (off + len) * L.m + vs.length)).toArray.size = arr.size := by
                    have : arr.toList.length = arr.size := by simp
                    simp only [List.size_toArray, List.length_append, List.length_take, List.length_drop, this]
                    omega
                  have hreg := hH.regrow (off := off) hnx hb hL h3 hE2 hsz (by rw [hl2]; omega) (by
                    have e1 : ((arr.toList.take (L.o + (off + len) * L.m) ++ vs ++ arr.toList.drop (L.o + (off + len) * L.m + vs.length)).toArray.toList.drop (L.o + off * L.m)).take (((B.es.drop off).take len ++ src).length * L.m) = (arr.toList.drop (L.o + off * L.m)).take (len * L.m) ++ vs := by
                      rw [hl2, Nat.add_mul]
                      have hp : L.o + (off + len) * L.m = L.o + off * L.m + len * L.m := by rw [Nat.add_mul]; omega
                      simp only [List.append_assoc]
                      rw [hp]
                      have hlt : (arr.toList.take (L.o + off * L.m + len * L.m)).length = L.o + off * L.m + len * L.m := by simp; omega
                      rw [List.drop_append_of_le_length (by rw [hlt]; omega), List.drop_take, show L.o + off * L.m + len * L.m - (L.o + off * L.m) = len * L.m by omega, ← List.append_assoc]
                      have hlv : ((arr.toList.drop (L.o + off * L.m)).take (len * L.m) ++ vs).length = len * L.m + src.length * L.m := by
                        rw [List.length_append, hvl, ← hLm]; simp; omega
                      rw [← hlv, List.take_left]
                    rw [e1, List.flatten_append]
                    exact hseg.append hvs)
                  refine ⟨_, _, O, _, hr, hreg.1, hreg.2, ?_, fun b hb => by simp [bNew, hb]⟩
                  have := VR.own (w := w.setRow L.k (arr.toList.take (L.o + (off + len) * L.m) ++ vs ++ arr.toList.drop (L.o + (off + len) * L.m + vs.length)).toArray) (O := O) (β := bNew β nx ⟨L.k, L.o + off * L.m, L.m, L.cp - off⟩) nx (P.cellsOf e) 0 (len + src.length) ⟨L.k, L.o + off * L.m, L.m, L.cp - off⟩ (by simp [bNew]) hLm (by simpa using hfit)
                  simpa [hLm] using this
                · obtain ⟨ovs, hovs, hocell⟩ : ∃ ovs : List Value, VC w O β ((B.es.drop off).take len).flatten ovs ∧ (∀ w', w'.heap = w.heap → (Builtin.firstCells i.size len (.slice (some ⟨L.k, L.o + off * P.cellsOf e, none⟩) len (L.cp - off))).run P w' = .ok ovs.toArray w') := by
                    have hso : srcEls H (.own b (P.cellsOf e) off len) (P.cellsOf e) = some ((B.es.drop off).take len) := by simp [srcEls, hb, hle]
                    obtain ⟨_, ovs, g1, g2, g3⟩ := src_sound (P := P) hso hne hH (VR.own b (P.cellsOf e) off len L hL hLm hcp)
                    rw [hl1, ← his] at g3
                    exact ⟨ovs, g1, by rw [← his]; exact g3⟩
                  have hr := append_grows (P := P) (w := w) (ty := ty) (a := some ⟨L.k, L.o + off * P.cellsOf e, none⟩) (sLen := len) (sCap := L.cp - off) hu hi hzv hn2 hlen hread hocell (by omega) (by omega) (by rw [hib]; omega)
                  have hge := grownCap_ge w (len + src.length) (L.cp - off) e
                  have hk := (hd.2.kill b)
                  have hol : ovs.length = len * P.cellsOf e := by rw [hovs.1, hE1.length_flatten, hl1, hLm]
                  refine ⟨_, _, oNew w.drew O, bNew β nx ⟨w.drew.heap.size, 0, P.cellsOf e, grownCap w (len + src.length) (L.cp - off) e⟩, hr, hd.1.trans (ST.new hnx _ _ rfl), HR.new hk hnx (by rw [← hLm]; exact hE2) ?_ (by rw [hl2]; exact hge) ?_ (by simp), ?_, fun b hb => by simp [bNew, hb]⟩
                  · have : ((ovs.toArray ++ vs.toArray ++ Builtin.zeroCells zv.cells (grownCap w (len + src.length) (L.cp - off) e - (len + src.length))).toList).take (((B.es.drop off).take len ++ src).length * P.cellsOf e) = ovs ++ vs := by
                      have hlv : (ovs ++ vs).length = ((B.es.drop off).take len ++ src).length * P.cellsOf e := by rw [hl2, List.length_append, hol, hvl, Nat.add_mul]
                      simp only [Array.toList_append, ← hlv]
                      exact List.take_left
                    rw [this, List.flatten_append]
                    exact (hovs.append hvs).mono hd.1
                  · have hzs : zv.cells.size = P.cellsOf e := by have := hzc.1; simp at this; omega
                    simp only [Array.size_append, List.size_toArray, hol, hvl, size_zeroCells, hzs, ← Nat.add_mul]
                    exact Nat.mul_le_mul_right _ (by omega)
                  · have := VR.own (w := w.drew.alloc (.cells (ovs.toArray ++ vs.toArray ++ Builtin.zeroCells zv.cells (grownCap w (len + src.length) (L.cp - off) e - (len + src.length))) e (0, 0))) (O := oNew w.drew O) (β := bNew β nx ⟨w.drew.heap.size, 0, P.cellsOf e, grownCap w (len + src.length) (L.cp - off) e⟩) nx (P.cellsOf e) 0 (len + src.length) ⟨w.drew.heap.size, 0, P.cellsOf e, grownCap w (len + src.length) (L.cp - off) e⟩ (by simp [bNew]) rfl (by simpa using hge)
                    simpa [AH.kill] using this
            · cases h
          · cases h
        · cases h
      · cases h
    · cases h
  · cases h

end
end Go.M3
