/- Kept once more: the lists that are told may be written, each lies in a block of its own. -/
import Derived.Test.YtedndjbhgbdpoaaVlE
namespace Go.Proofs.Ytedndjbhgbdpoaa
open Go.RowKit
/-- The block of a slice. -/
def ub : Value → Option Nat
  | .slice (some a) _ _ => some a.block
  | _ => none
theorem mine_list2 {w0 w : World} {A : Option Addr} {c m : Nat} {xs : List Value} (h : Mine w0 w 3 (.slice A m c) m xs) (hm : 0 < m) :
    ∃ b o, A = some ⟨b, o, none⟩ ∧ w0.heap.size ≤ b ∧ b < w.heap.size ∧ m ≤ c ∧ ∀ j, j < m * 3 → w.cell? ⟨b, o + j, none⟩ = some (xs.getD j (.bool false)) ∧ w.frozen? ⟨b, o + j, none⟩ = false := by
  obtain ⟨b, ⟨h0, A', c', heq, h1, h2, h3⟩, hb⟩ := h
  cases heq
  rcases h3 with ⟨_, h4⟩ | ⟨g, off, rfl, rfl, hg, h5, h6⟩
  · omega
  · refine ⟨g, off, rfl, hb g rfl, hg, h1, fun j hj => ⟨?_, (h5 j (by omega)).2⟩⟩
    rw [h6 j hj, List.getD_eq_getElem?_getD, List.getElem?_eq_getElem (by omega)]; rfl
/-- A list of its own, made behind w0, not in block bk. -/
def KL2 (w0 w : World) (bk : Option Nat) (u : Value) (M : List Sg) : Prop :=
  ∃ b o c, u = .slice (some ⟨b, o, none⟩) M.length c ∧ w0.heap.size ≤ b ∧ b < w.heap.size ∧ some b ≠ bk ∧ ∀ j, j < M.length * 3 → w.cell? ⟨b, o + j, none⟩ = some ((scells M).getD j (.bool false)) ∧ w.frozen? ⟨b, o + j, none⟩ = false
theorem KL2.carry {w0 w w' : World} {bk bk' : Option Nat} {u : Value} {M : List Sg} (h : KL2 w0 w bk u M) (hs : w.heap.size ≤ w'.heap.size) (hb : ∀ b, b < w.heap.size → some b ≠ bk → w0.heap.size ≤ b → w'.heap[b]? = w.heap[b]?) (hk : bk' = bk ∨ bk' = some w.heap.size) : KL2 w0 w' bk' u M := by
  obtain ⟨b, o, c, h1, h2, h3, h4, h5⟩ := h
  refine ⟨b, o, c, h1, h2, by omega, fun e => ?_, fun j hj => ?_⟩
  · rcases hk with hk | hk
    · exact h4 (e.trans hk)
    · rw [hk] at e; cases e; omega
  · rw [World.cell?_of_block (a := ⟨b, o + j, none⟩) (hb b h3 h4 h2), World.frozen?_of_block (a := ⟨b, o + j, none⟩) (hb b h3 h4 h2)]; exact h5 j hj
/-- Proofs that are told: a row of them, made behind w0. -/
def KeptAt2 (w0 w : World) (v : Value) (L : List Kb) : Prop :=
  ∃ bk vs, vs.length = L.length ∧ Own w 8 v bk L.length (kcells L vs) ∧ (∀ g, bk = some g → w0.heap.size ≤ g) ∧ (∀ (i : Nat) (k : Kb) (u : Value), L[i]? = some k → vs[i]? = some u → KL2 w0 w bk u k.list) ∧ ∀ (i j : Nat) (u v : Value), i < j → vs[i]? = some u → vs[j]? = some v → ub u ≠ ub v
theorem KeptAt2.below {w0 w w' : World} {v : Value} {L : List Kb} (h : KeptAt2 w0 w v L) (hb : Below w.heap.size w w') : KeptAt2 w0 w' v L := by
  obtain ⟨bk, vs, h1, h2, h3, h4, h5⟩ := h
  exact ⟨bk, vs, h1, h2.below hb, h3, fun i k u hk hu => (h4 i k u hk hu).carry hb.size (fun b hlt _ _ => hb.block b hlt) (.inl rfl), h5⟩
theorem KeptAt2.empty (w0 w : World) (A : Option Addr) : KeptAt2 w0 w (.slice A 0 0) [] :=
  ⟨none, [], rfl, ⟨by simp [kcells], A, 0, rfl, Nat.le_refl _, Nat.zero_le _, .inl ⟨rfl, rfl⟩⟩, nofun, fun _ _ _ h => by simp at h, fun _ _ _ _ _ h => by simp at h⟩
theorem kept_step2 {w0 w w' : World} {v' : Value} {bk bk' : Option Nat} {L : List Kb} {vs : List Value} {k : Kb} {u : Value} {n : Nat} (hn : L.length = n) (h1 : vs.length = L.length) (h3 : ∀ g, bk = some g → w0.heap.size ≤ g) (h4 : ∀ (i : Nat) (k : Kb) (u : Value), L[i]? = some k → vs[i]? = some u → KL2 w0 w bk u k.list)
    (h6 : ∀ (i j : Nat) (u v : Value), i < j → vs[i]? = some u → vs[j]? = some v → ub u ≠ ub v) (h7 : ∀ (i : Nat) (v : Value), vs[i]? = some v → ub v ≠ ub u) (hu : KL2 w0 w bk u k.list) (hw : w0.heap.size ≤ w.heap.size) (hown : Own w' 8 v' bk' (n + 1) (kcells L vs ++ kcell k u)) (hg : w.grownBy w' bk) (hk : bk' = bk ∨ bk' = some w.heap.size) : KeptAt2 w0 w' v' (L ++ [k]) := by
  have hc : ∀ u M, KL2 w0 w bk u M → KL2 w0 w' bk' u M := fun u M h => h.carry hg.size (fun b hlt hne _ => hg.block b hlt hne) hk
  refine ⟨bk', vs ++ [u], by simp [h1], ?_, fun g hg' => ?_, fun i k' u' hk' hu' => ?_, fun i j u' v' hij hu' hv' => ?_⟩
  · rw [kcells_snoc L vs k u h1, List.length_append, hn]; exact hown
  · rcases hk with e | e
    · exact h3 g (e ▸ hg')
    · rw [e] at hg'; cases hg'; exact hw
  · by_cases hi : i < L.length
    · rw [List.getElem?_append_left hi] at hk'
      rw [List.getElem?_append_left (by omega)] at hu'
      exact hc _ _ (h4 i k' u' hk' hu')
    · have hi2 : i < (L ++ [k]).length := (List.getElem?_eq_some_iff.1 hk').1
      rw [List.length_append, List.length_singleton] at hi2
      have hi3 : i = L.length := by omega
      rw [hi3, List.getElem?_append_right (Nat.le_refl _), Nat.sub_self] at hk'
      rw [hi3, List.getElem?_append_right (by omega), h1, Nat.sub_self] at hu'
      cases hk'
      cases hu'
      exact hc _ _ hu
  · have hj : j < (vs ++ [u]).length := (List.getElem?_eq_some_iff.1 hv').1
    rw [List.length_append, List.length_singleton] at hj
    rw [List.getElem?_append_left (by omega)] at hu'
    by_cases hj2 : j < vs.length
    · rw [List.getElem?_append_left hj2] at hv'
      exact h6 i j u' v' hij hu' hv'
    · rw [List.getElem?_append_right (by omega), show j - vs.length = 0 from by omega] at hv'
      cases hv'
      exact h7 i u' hu'
set_option maxHeartbeats 8000000 in
set_option maxRecDepth 100000 in
theorem kept2_calls {w : World} {g gm : Nat} {gv : Nat → Nat → Option Nat} {kv : Nat → Value} {l : Vl} (h : AtV w g gm gv kv l) :
    Calls Try.prog 22 #[.pointer (some ⟨g, 0, none⟩)] w fun e w' => ∃ A c, e = .returned (.slice A l.kept.length c) ∧ KeptAt2 w w' (.slice A l.kept.length c) l.kept ∧ Below w.heap.size w w' := by
  have H := Lib.hid h
  have hlow := h.ok.low
  obtain ⟨q, hq, hq3, hq9, _⟩ := Vl.quorum_some h.ok
  have HK : Hid (∀ k, (l.slots k).kept.kind ≠ 0 → ((l.slots k).kept.list.length : Int) = (q : Int)) := Lib.hid fun k hk => by
    rcases h.ok.kept k with h1 | h1
    · exact absurd h1.1 hk
    · rw [← hq]; exact h1.2.2.2
  obtain ⟨low, hl0⟩ : ∃ low, Hid (l.low = low) := ⟨_, Lib.hid rfl⟩
  rw [hl0.out] at hlow
  obtain ⟨hlow0, hlow1⟩ := hlow
  have HLow : Hid (∀ wr, Below w.heap.size w wr → wr.cell? ⟨g, 2, none⟩ = some (.int .i64 low)) := Lib.hid fun wr hb => by
    rw [← hl0.out]
    exact (H.out.below hb).head.2.2.1
  have HA := Lib.hid (fun w s h => at_calls w g s h)
  have HN : Hid (∀ i : Nat, l.keptN (i + 1) = l.keptN i ++ (if (l.slots (ix (low + 1 + (i : Int)))).kept.kind ≠ 0 then [(l.slots (ix (low + 1 + (i : Int)))).kept] else [])) := Lib.hid fun i => by
    rw [← hl0.out]
    exact l.keptN_snoc i
  have HEnd : Hid (l.keptN 8 = l.kept) := Lib.hid rfl
  clear h hq
  obtain ⟨i1, hi1, hy0, hy1, hy2⟩ := info_parts info_sg
  have HI1 := Lib.hid hi1
  have HY0 := Lib.hid hy0
  have HY1 := Lib.hid hy1
  have HY2 := Lib.hid hy2
  clear hi1 hy0 hy1 hy2
  obtain ⟨i2, hi2, hy0, hy1, hy2⟩ := info_parts info_body
  have HI2 := Lib.hid hi2
  have HZ0 := Lib.hid hy0
  have HZ1 := Lib.hid hy1
  have HZ2 := Lib.hid hy2
  clear hi2 hy0 hy1 hy2
  have c2 := HLow.out w (Below.refl _ _)
  go_enter Try.func22, Try.ntmps22
  go_wp2
  clear c2
  go_loopg [3, 4] 9 (fun gk s3 s4 wr => ∃ i A c, gk = 9 - i ∧ i ≤ 8 ∧ s4 = .int .i64 (low + 1 + (i : Int)) ∧ s3 = .slice A (l.keptN i).length c ∧ Hid (KeptAt2 w wr (.slice A (l.keptN i).length c) (l.keptN i)) ∧ Hid (Below w.heap.size w wr))
  case atStart => exact ⟨0, none, 0, rfl, by omega, by simp, rfl, Lib.hid (KeptAt2.empty _ _ _), Lib.hid (Below.refl _ _)⟩
  case round =>
    obtain ⟨i, A, c, rfl, hi, rfl, rfl, hka, hb⟩ := hrel
    have i0 : (0 : Int) ≤ (i : Int) := by omega
    have c2 := HLow.out wr hb.out
    by_cases hlt : i < 8
    · have hltI : low + 1 + (i : Int) ≤ low + 8 := by omega
      have hsn := Lib.hid (HN.out i)
      have hle := Vl.keptN_le l i
      have HAi := Lib.hid (fun w => HA.out w (low + 1 + (i : Int)) (by omega))
      have hk8 := ix_lt (low + 1 + (i : Int))
      generalize ix (low + 1 + (i : Int)) = k at hsn HAi hk8
      have hA := H.out.below hb.out
      obtain ⟨⟨x0, x1, x2, x3, x4, x5, x6, x7⟩, -⟩ := hA.kcells hk8
      have HLs := Lib.hid (hA.lists k hk8)
      have HKk := Lib.hid (HK.out k)
      obtain ⟨kb, hkb⟩ : ∃ kb, Hid ((l.slots k).kept = kb) := ⟨_, Lib.hid rfl⟩
      rw [hkb.out] at x0 x1 x2 x5 x6 HLs HKk hsn
      obtain ⟨u, hu⟩ : ∃ u, Hid (kv k = u) := ⟨_, Lib.hid rfl⟩
      rw [hu.out] at x7 HLs
      obtain ⟨kd, kw, kq, kg, kt, kl⟩ := kb
      simp only at x0 x1 x2 x5 x6
      obtain ⟨X, cX, rfl⟩ : ∃ X cX, u = .slice X kl.length cX := by
        rcases HLs.out with ⟨h1, h2⟩ | ⟨b, o, c', h1, _, _⟩
        · have h2' : kl = [] := h2
          rw [h2']; exact ⟨_, _, h1⟩
        · exact ⟨_, _, h1⟩
      have HSr : Hid (∀ wr', Below wr.heap.size wr wr' → Src Try.prog 3 44 (.slice X kl.length cX) kl.length (scells kl) wr') := Lib.hid fun wr' hb' => kept_src (HLs.out.carry (fun b _ hlt _ => hb'.block b hlt) hb'.size)
      obtain ⟨m, hmm⟩ : ∃ m, Hid ((l.keptN i).length = m) := ⟨_, Lib.hid rfl⟩
      rw [hmm.out] at hka hle ⊢
      have hm8 : m ≤ 8 := by omega
      clear hle hA
      by_cases hz : kd = 0
      · have hz2 : (kd != 0) = false := by simpa using hz
        have E : Hid (l.keptN (i + 1) = l.keptN i) := Lib.hid (by rw [hsn.out, if_neg (by simpa using hz), List.append_nil])
        clear hsn
        go_wp2_with (first
          | (go_at_call 35; (with_reducible refine (HAi.out _).mono ?_); rintro e w1 ⟨rfl, rfl⟩))
        go_roundg (9 - (i + 1))
        case measure => omega
        case rel => exact ⟨i + 1, A, c, rfl, by omega, by go_num, by rw [E.out, hmm.out], Lib.hid (by rw [E.out, hmm.out]; exact hka.out.below ((Below.refl _ _).alloc (Nat.le_refl _) _)), Lib.hid (hb.out.alloc hb.out.size _)⟩
      · have hz2 : (kd != 0) = true := by simpa using hz
        have E : Hid (l.keptN (i + 1) = l.keptN i ++ [⟨kd, kw, kq, kg, kt, kl⟩]) := Lib.hid (by rw [hsn.out, if_pos (by simpa using hz)])
        have hkl : Hid (kl.length = q) := Lib.hid (by have := HKk.out hz; simp only at this; omega)
        clear hsn
        go_upto_region 9 with (first
          | (go_at_call 35; (with_reducible refine (HAi.out _).mono ?_); rintro e w1 ⟨rfl, rfl⟩))
        have hb2 := Lib.hid ((Below.refl wr.heap.size wr).alloc (Nat.le_refl _) (.cells #[.int .i64 kd, .int .i64 kw, .int .i64 kq, .int .i64 0, .int .i64 0, .string kg, .string kt, .slice X kl.length cX] 46))
        have D2 : Hid (Blk (wr.alloc (.cells #[.int .i64 kd, .int .i64 kw, .int .i64 kq, .int .i64 0, .int .i64 0, .string kg, .string kt, .slice X kl.length cX] 46)) wr.heap.size 46 #[.int .i64 kd, .int .i64 kw, .int .i64 kq, .int .i64 0, .int .i64 0, .string kg, .string kt, .slice X kl.length cX]) := Lib.hid (Blk.new _ _ _)
        have hgd : w.heap.size ≤ wr.heap.size := hb.out.size
        clear x0 x1 x2 x3 x4 x5 x6 x7 c2
        generalize hgd2 : wr.heap.size = gd at D2 hgd ⊢
        have HGD := Lib.hid hgd2
        generalize World.alloc wr _ = wy at hb2 D2 ⊢
        have d7 : (wy.alloc (.cells #[] 48)).cell? ⟨gd, 7, none⟩ = some (.slice X kl.length cX) := (D2.out.alloc _).cell 7
        have HS2 := Lib.hid (HSr.out (wy.alloc (.cells #[] 48)) (below_next hb2.out ((Below.refl _ _).alloc (Nat.le_refl _) _)))
        have hby := Lib.hid (below_next hb.out hb2.out)
        clear HSr HLs HAi HKk hgd2
        rw [hkl.out] at d7 HS2 ⊢
        go_upto_region 10 with (first
          | (refine wpList_append_mine rfl (.tmp 34) (.tmp 36) 44 44 rfl 48 i1 (.agg #[.int .i64 0, .string noText, .string noText]) 40 Try.underlying44 HI1.out HY0.out HY1.out HY2.out rfl (by decide) rfl (Mine.empty wy _ 3 _) ((Below.refl wy.heap.size wy).alloc (Nat.le_refl _) _) _ q (scells kl) rfl HS2.out (by unfold maxLen; omega) (by omega) ?_; intro A2 c2 w2 hm4 hb4; have HM4 := Lib.hid hm4; have HB4 := Lib.hid hb4; have e7 := (D2.out.below hb4 D2.out.lt).cell 7; have f7 := (D2.out.below hb4 D2.out.lt).frozen 7; clear hm4 hb4))
        rw [Nat.zero_add, List.nil_append] at HM4
        have D3 := Lib.hid ((D2.out.below HB4.out D2.out.lt).set_ 7 (.slice A2 q c2))
        have hne : Hid (∀ b, wy.heap.size ≤ b → b ≠ gd) := Lib.hid fun b hb' e => by have := D2.out.lt; omega
        have O3 : Hid (Only (fun b => b = gd) wy (w2.setCell ⟨gd, 7, none⟩ (.slice A2 q c2))) := Lib.hid ((Only.of_below (S := fun b => b = gd) HB4.out).setCell (.inl rfl) _)
        have hKL : Hid (∀ bk, (∀ b, bk = some b → b < wy.heap.size) → KL2 w (w2.setCell ⟨gd, 7, none⟩ (.slice A2 q c2)) bk (.slice A2 q c2) kl) := Lib.hid fun bk hbk => by
          obtain ⟨b, o, hAe, h1, h2, _, h3⟩ := mine_list2 HM4.out (by omega)
          refine ⟨b, o, c2, by rw [hAe, hkl.out], Nat.le_trans hby.out.size h1, by simpa using h2, fun e => ?_, fun j hj => ?_⟩
          · have := hbk b e.symm
            omega
          · have e : (w2.setCell ⟨gd, 7, none⟩ (.slice A2 q c2)).heap[b]? = w2.heap[b]? := heap_setCell_other w2 ⟨gd, 7, none⟩ b _ (hne.out b h1)
            rw [World.cell?_of_block (a := ⟨b, o + j, none⟩) e, World.frozen?_of_block (a := ⟨b, o + j, none⟩) e]
            exact h3 j (by rw [← hkl.out]; exact hj)
        have hUB : Hid (∃ b, ub (.slice A2 q c2) = some b ∧ wy.heap.size ≤ b) := Lib.hid (by
          obtain ⟨b, o, hAe, h1, _⟩ := mine_list2 HM4.out (by omega)
          exact ⟨b, by rw [hAe]; rfl, h1⟩)
        have hsz3 : Hid (wy.heap.size ≤ (w2.setCell ⟨gd, 7, none⟩ (.slice A2 q c2)).heap.size) := Lib.hid (by simpa using HB4.out.size)
        clear e7 f7 d7
        generalize World.setCell w2 _ _ = w3 at D3 O3 hKL hsz3 ⊢
        have r0 : w3.cell? ⟨gd, 0, none⟩ = some (.int .i64 kd) := D3.out.cell 0
        have r1 : w3.cell? ⟨gd, 1, none⟩ = some (.int .i64 kw) := D3.out.cell 1
        have r2 : w3.cell? ⟨gd, 2, none⟩ = some (.int .i64 kq) := D3.out.cell 2
        have r3 : w3.cell? ⟨gd, 3, none⟩ = some (.int .i64 0) := D3.out.cell 3
        have r4 : w3.cell? ⟨gd, 4, none⟩ = some (.int .i64 0) := D3.out.cell 4
        have r5 : w3.cell? ⟨gd, 5, none⟩ = some (.string kg) := D3.out.cell 5
        have r6 : w3.cell? ⟨gd, 6, none⟩ = some (.string kt) := D3.out.cell 6
        have r7 : w3.cell? ⟨gd, 7, none⟩ = some (.slice A2 q c2) := D3.out.cell 7
        obtain ⟨bk, vs, hvs, hown, hbk, hKLs, hdis⟩ := hka.out
        have HDis := Lib.hid hdis
        rw [hmm.out] at hown
        have hbkl : ∀ b, bk = some b → b < wr.heap.size := fun b e => hown.lt e
        have hbw3 : Below wr.heap.size wr w3 := hb2.out.trans ((O3.out.below (B := wr.heap.size) hb2.out.size fun b e => by have := HGD.out; omega))
        have OW3 := Lib.hid (hown.carry hbw3.size fun b e => hbw3.block b (hbkl b e))
        have KL3 : Hid (∀ (j : Nat) (k : Kb) (u : Value), (l.keptN i)[j]? = some k → vs[j]? = some u → KL2 w w3 bk u k.list) := Lib.hid fun j k u h1 h2 => (hKLs j k u h1 h2).carry hbw3.size (fun b hlt _ _ => hbw3.block b hlt) (.inl rfl)
        have KN3 := Lib.hid (hKL.out bk fun b e => Nat.lt_of_lt_of_le (hbkl b e) hb2.out.size)
        have HNew : Hid (∀ (j : Nat) (v : Value), vs[j]? = some v → ub v ≠ ub (.slice A2 q c2)) := Lib.hid fun j v hv e => by
          have hj : j < vs.length := (List.getElem?_eq_some_iff.1 hv).1
          obtain ⟨k', hk'⟩ : ∃ k', (l.keptN i)[j]? = some k' := ⟨_, List.getElem?_eq_getElem (by omega)⟩
          obtain ⟨b', o', c', e1, _, e3, _⟩ := hKLs j k' v hk' hv
          obtain ⟨b2, e4, e5⟩ := hUB.out
          rw [e4, e1] at e
          have e6 : b' = b2 := Option.some.inj e
          have := hb2.out.size
          omega
        have HVS := Lib.hid hvs
        have HBK := Lib.hid hbk
        have hb3 := Lib.hid (hb.out.trans (hbw3.mono hb.out.size))
        clear hown hbkl hbw3 hKLs hvs hbk hKL hne hdis hUB O3 hb2 HM4 HB4 D2 hsz3 hka
        go_wp2_with (first
          | (refine wpList_append_own2 rfl (.tmp 39) (.tmp 41) 42 42 rfl 46 i2 (.agg #[.int .i64 0, .int .i64 0, .int .i64 0, .int .i64 0, .int .i64 0, .string noText, .string noText, .slice none 0 0]) 96 Try.underlying42 HI2.out HZ0.out HZ1.out HZ2.out rfl (by decide) rfl (OW3.out.below ((Below.refl _ _).alloc (Nat.le_refl _) _)) _ 1 [.int .i64 kd, .int .i64 kw, .int .i64 kq, .int .i64 0, .int .i64 0, .string kg, .string kt, .slice A2 q c2] rfl (src_new Try.underlying42 _ _ _ 1 1 rfl (by simp [Value.oneCell'])) (by unfold maxLen; omega) (by omega) ?_; intro A5 c5 w5 b5 hown5 hg5 hk5; have HO5 := Lib.hid hown5; have HG5 := Lib.hid hg5; have HK5 := Lib.hid hk5; clear hown5 hg5 hk5))
        go_roundg (9 - (i + 1))
        case measure => omega
        case rel =>
          have hlen : (l.keptN (i + 1)).length = m + 1 := by rw [E.out, List.length_append, hmm.out]; rfl
          have hba : Below w3.heap.size w3 (w3.alloc (.cells #[.int .i64 kd, .int .i64 kw, .int .i64 kq, .int .i64 0, .int .i64 0, .string kg, .string kt, .slice A2 q c2] 46)) := (Below.refl _ _).alloc (Nat.le_refl _) _
          refine ⟨i + 1, A5, c5, rfl, by omega, by go_num, by rw [hlen], Lib.hid ?_, Lib.hid ?_⟩
          · rw [hlen, E.out]
            exact kept_step2 (k := ⟨kd, kw, kq, kg, kt, kl⟩) (u := .slice A2 q c2) hmm.out HVS.out HBK.out (fun j k u h1 h2 => (KL3.out j k u h1 h2).carry hba.size (fun b hlt _ _ => hba.block b hlt) (.inl rfl)) HDis.out HNew.out (KN3.out.carry hba.size (fun b hlt _ _ => hba.block b hlt) (.inl rfl)) (Nat.le_trans hb3.out.size hba.size) HO5.out HG5.out HK5.out
          · have := (Only.of_grown HG5.out).below (B := w.heap.size) (Nat.le_trans hb3.out.size hba.size) fun b e => HBK.out b e.symm
            exact (hb3.out.trans (hba.mono hb3.out.size)).trans this
    · obtain rfl : i = 8 := by omega
      rw [HEnd.out] at hka ⊢
      go_wp2
      go_ret
      exact ⟨A, c, rfl, hka.out, hb.out⟩
/-- What is told, laid open: the block of the proofs, the block and the place of each list. -/
def Told (w0 w : World) (L : List Kb) (b o : Nat) (bl ol cl : Nat → Nat) : Prop :=
  w0.heap.size ≤ b ∧ b < w.heap.size ∧ (∀ i, i < L.length → w0.heap.size ≤ bl i ∧ bl i < w.heap.size ∧ bl i ≠ b ∧
    (w.cell? ⟨b, o + i * 8, none⟩ = some (.int .i64 (L.getD i Kb.none).kind) ∧ w.cell? ⟨b, o + i * 8 + 1, none⟩ = some (.int .i64 (L.getD i Kb.none).view) ∧ w.cell? ⟨b, o + i * 8 + 2, none⟩ = some (.int .i64 (L.getD i Kb.none).seq) ∧
      w.cell? ⟨b, o + i * 8 + 3, none⟩ = some (.int .i64 0) ∧ w.cell? ⟨b, o + i * 8 + 4, none⟩ = some (.int .i64 0) ∧ w.cell? ⟨b, o + i * 8 + 5, none⟩ = some (.string (L.getD i Kb.none).digest) ∧ w.cell? ⟨b, o + i * 8 + 6, none⟩ = some (.string (L.getD i Kb.none).text) ∧ w.cell? ⟨b, o + i * 8 + 7, none⟩ = some (.slice (some ⟨bl i, ol i, none⟩) (L.getD i Kb.none).list.length (cl i))) ∧
    ∀ j, j < (L.getD i Kb.none).list.length * 3 → w.cell? ⟨bl i, ol i + j, none⟩ = some ((scells (L.getD i Kb.none).list).getD j (.bool false)) ∧ w.frozen? ⟨bl i, ol i + j, none⟩ = false) ∧
  ∀ i j, i < j → j < L.length → bl i ≠ bl j
theorem KeptAt2.opened {w0 w : World} {A : Option Addr} {n c : Nat} {L : List Kb} (h : KeptAt2 w0 w (.slice A n c) L) (h0 : 0 < L.length) : ∃ b o bl ol cl, A = some ⟨b, o, none⟩ ∧ Told w0 w L b o bl ol cl := by
  obtain ⟨bk, vs, h1, h2, h3, h4, h5⟩ := h
  obtain ⟨hl, A', c', hv, hnc, _, hrow⟩ := h2
  cases hv
  rcases hrow with ⟨_, hz⟩ | ⟨g, off, hb, rfl, hlt, _, hcells⟩
  · omega
  · have each : ∀ i, i < L.length → ∃ x : Nat × Nat × Nat, vs[i]? = some (.slice (some ⟨x.1, x.2.1, none⟩) (L.getD i Kb.none).list.length x.2.2) ∧ w0.heap.size ≤ x.1 ∧ x.1 < w.heap.size ∧ x.1 ≠ g ∧ ∀ j, j < (L.getD i Kb.none).list.length * 3 → w.cell? ⟨x.1, x.2.1 + j, none⟩ = some ((scells (L.getD i Kb.none).list).getD j (.bool false)) ∧ w.frozen? ⟨x.1, x.2.1 + j, none⟩ = false := by
      intro i hi
      obtain ⟨k, hk⟩ : ∃ k, L[i]? = some k := ⟨_, List.getElem?_eq_getElem hi⟩
      obtain ⟨u, hu⟩ : ∃ u, vs[i]? = some u := ⟨_, List.getElem?_eq_getElem (by omega)⟩
      have hkd : L.getD i Kb.none = k := by rw [List.getD_eq_getElem?_getD, hk]; rfl
      rw [hkd]
      obtain ⟨bl, ol, cl, e1, e2, e3, e4, e5⟩ := h4 i k u hk hu
      exact ⟨(bl, ol, cl), by rw [hu, e1], e2, e3, fun e => e4 (by rw [hb]; exact congrArg some e), e5⟩
    let F := fun i => if hi : i < L.length then Classical.choose (each i hi) else (0, 0, 0)
    have hF : ∀ i (hi : i < L.length), F i = Classical.choose (each i hi) := fun i hi => dif_pos hi
    have hs : ∀ i (hi : i < L.length), vs[i]? = some (.slice (some ⟨(F i).1, (F i).2.1, none⟩) (L.getD i Kb.none).list.length (F i).2.2) ∧ w0.heap.size ≤ (F i).1 ∧ (F i).1 < w.heap.size ∧ (F i).1 ≠ g ∧ ∀ j, j < (L.getD i Kb.none).list.length * 3 → w.cell? ⟨(F i).1, (F i).2.1 + j, none⟩ = some ((scells (L.getD i Kb.none).list).getD j (.bool false)) ∧ w.frozen? ⟨(F i).1, (F i).2.1 + j, none⟩ = false := fun i hi => by
      rw [hF i hi]; exact Classical.choose_spec (each i hi)
    refine ⟨g, off, fun i => (F i).1, fun i => (F i).2.1, fun i => (F i).2.2, rfl, h3 g hb, hlt, fun i hi => ?_, fun i j hij hj e => ?_⟩
    · obtain ⟨s1, s2, s3, s4, s5⟩ := hs i hi
      obtain ⟨k, hk⟩ : ∃ k, L[i]? = some k := ⟨_, List.getElem?_eq_getElem hi⟩
      have hkd : L.getD i Kb.none = k := by rw [List.getD_eq_getElem?_getD, hk]; rfl
      rw [hkd] at s1 s5 ⊢
      have eachc : ∀ j, j < 8 → w.cell? ⟨g, off + i * 8 + j, none⟩ = (kcell k (.slice (some ⟨(F i).1, (F i).2.1, none⟩) k.list.length (F i).2.2))[j]? := fun j hj => by
        rw [Nat.add_assoc, hcells (i * 8 + j) (by omega), kcells_at L vs i j k _ hk s1 hj]
      exact ⟨s2, s3, s4, ⟨eachc 0 (by omega), eachc 1 (by omega), eachc 2 (by omega), eachc 3 (by omega), eachc 4 (by omega), eachc 5 (by omega), eachc 6 (by omega), eachc 7 (by omega)⟩, s5⟩
    · exact h5 i j _ _ hij (hs i (by omega)).1 (hs j hj).1 (congrArg some e)
end Go.Proofs.Ytedndjbhgbdpoaa
