/- The walk of Write: what a hash holds behind it, and what of the world may have turned. -/
import Derived.Test.YtblgldllfllcpaaHashP
import Derived.StillTailTactics
import Derived.Deep.QuietTactic
import Derived.Deep.RegionWith
import Derived.BigQuiet
import Derived.Great.Walk
import Derived.Deep.Cut
import Derived.Deep.LoopGhost
namespace Go.Proofs.Ytblgldllfllcpaa
open Go.RowKit
theorem info_u8 : (Try.prog.info? 5).map (fun i => (i.zero, i.size, i.bytes)) = some (some (.int .u8 0), 1, 1) := by kernel_rfl
theorem info_parts {o : Option TypeInfo} {z : Value} {n k : Nat} (h : o.map (fun i => (i.zero, i.size, i.bytes)) = some (some z, n, k)) : ∃ i, o = some i ∧ i.zero = some z ∧ i.size = n ∧ i.bytes = k := by
  cases o with
  | none => cases h
  | some i =>
    have := Option.some.inj h
    exact ⟨i, rfl, congrArg Prod.fst this, congrArg (fun x => x.2.1) this, congrArg (fun x => x.2.2) this⟩
theorem Blk.carry_ {w w' : World} {g : Nat} {t : TypeId} {cs : Array Value} (h : Blk w g t cs) (e : w'.heap[g]? = w.heap[g]?) : Blk w' g t cs := by
  unfold Blk at *; rw [e]; exact h
theorem state_facts {w : World} {g : Nat} {s1 s2 s3 s4 s5 s6 s7 s8 n : Nat} {v : Value} (h : Blk w g 37 (hcells ⟨s1, s2, s3, s4, s5, s6, s7, s8⟩ v n)) :
    (w.cell? ⟨g, 1, none⟩ = some (.int .u32 (s1 : Int)) ∧ w.cell? ⟨g, 2, none⟩ = some (.int .u32 (s2 : Int)) ∧ w.cell? ⟨g, 3, none⟩ = some (.int .u32 (s3 : Int)) ∧ w.cell? ⟨g, 4, none⟩ = some (.int .u32 (s4 : Int)) ∧
     w.cell? ⟨g, 5, none⟩ = some (.int .u32 (s5 : Int)) ∧ w.cell? ⟨g, 6, none⟩ = some (.int .u32 (s6 : Int)) ∧ w.cell? ⟨g, 7, none⟩ = some (.int .u32 (s7 : Int)) ∧ w.cell? ⟨g, 8, none⟩ = some (.int .u32 (s8 : Int))) ∧
    w.frozen? ⟨g, 1, none⟩ = false ∧ w.frozen? ⟨g, 2, none⟩ = false ∧ w.frozen? ⟨g, 3, none⟩ = false ∧ w.frozen? ⟨g, 4, none⟩ = false ∧ w.frozen? ⟨g, 5, none⟩ = false ∧ w.frozen? ⟨g, 6, none⟩ = false ∧ w.frozen? ⟨g, 7, none⟩ = false ∧ w.frozen? ⟨g, 8, none⟩ = false :=
  ⟨⟨h.cell 1, h.cell 2, h.cell 3, h.cell 4, h.cell 5, h.cell 6, h.cell 7, h.cell 8⟩, h.frozen 1, h.frozen 2, h.frozen 3, h.frozen 4, h.frozen 5, h.frozen 6, h.frozen 7, h.frozen 8⟩
theorem hash_next {w2 : World} {g : Nat} {b2 : Option Nat} {T : List Nat} {k n' c c2 : Nat} {A A2 : Option Addr} {st : Sp.St} (hB2 : Blk w2 g 37 (hcells st (.slice A n' c) T.length)) (hst : Sp.blocks Sp.H0 T (k + 1) = st)
    (hn : n' = T.length - 64 * k) (h64 : 64 ≤ n') (ho : Own w2 1 (.slice A2 (n' - 64) c2) b2 (n' - 64) (((u8c (T.drop (64 * k))).drop (64 * 1)).take ((n' - 64) * 1))) (hb2 : b2 ≠ some g) (hT : ∀ x ∈ T, x < 256) :
    HashAt (w2.setCell ⟨g, 9, none⟩ (.slice A2 (n' - 64) c2)) g b2 T (k + 1) T.length := by
  have e1 : n' - 64 = T.length - 64 * (k + 1) := by omega
  have e2 : ((u8c (T.drop (64 * k))).drop (64 * 1)).take ((n' - 64) * 1) = u8c (T.drop (64 * (k + 1))) := by
    rw [List.take_of_length_le (by rw [List.length_drop, u8c_length, List.length_drop]; omega), ← u8c_drop, List.drop_drop]
    congr 2
  rw [e2] at ho
  rw [e1] at ho ⊢
  refine ⟨A2, c2, ?_, ho.carry (by simp) fun i hi => heap_setCell_other w2 ⟨g, 9, none⟩ i _ (by rintro rfl; exact hb2 hi), hb2, by omega, hT⟩
  rw [hst]
  have := hB2.set_ 9 (.slice A2 (T.length - 64 * (k + 1)) c2)
  have e : (hcells st (.slice A n' c) T.length).setIfInBounds 9 (.slice A2 (T.length - 64 * (k + 1)) c2) = hcells st (.slice A2 (T.length - 64 * (k + 1)) c2) T.length := by simp [hcells]
  rw [e] at this
  exact this
/-- A state stored into a hash. -/
def set8 (w : World) (g : Nat) (s : Sp.St) : World := ((((((((w.setCell ⟨g, 1, none⟩ (.int .u32 ((s.a : Nat) : Int))).setCell ⟨g, 2, none⟩ (.int .u32 ((s.b : Nat) : Int))).setCell ⟨g, 3, none⟩ (.int .u32 ((s.c : Nat) : Int))).setCell ⟨g, 4, none⟩ (.int .u32 ((s.d : Nat) : Int))).setCell ⟨g, 5, none⟩ (.int .u32 ((s.e : Nat) : Int))).setCell ⟨g, 6, none⟩ (.int .u32 ((s.f : Nat) : Int))).setCell ⟨g, 7, none⟩ (.int .u32 ((s.g : Nat) : Int))).setCell ⟨g, 8, none⟩ (.int .u32 ((s.h : Nat) : Int)))
theorem Blk.set8 {w : World} {g n : Nat} {v : Value} {s0 : Sp.St} (h : Blk w g 37 (hcells s0 v n)) (s : Sp.St) : Blk (set8 w g s) g 37 (hcells s v n) := by
  have h1 := h.set_ 1 (.int .u32 ((s.a : Nat) : Int))
  have h2 := h1.set_ 2 (.int .u32 ((s.b : Nat) : Int))
  have h3 := h2.set_ 3 (.int .u32 ((s.c : Nat) : Int))
  have h4 := h3.set_ 4 (.int .u32 ((s.d : Nat) : Int))
  have h5 := h4.set_ 5 (.int .u32 ((s.e : Nat) : Int))
  have h6 := h5.set_ 6 (.int .u32 ((s.f : Nat) : Int))
  have h7 := h6.set_ 7 (.int .u32 ((s.g : Nat) : Int))
  have h8 := h7.set_ 8 (.int .u32 ((s.h : Nat) : Int))
  have e : (((((((((hcells s0 v n).setIfInBounds 1 (.int .u32 ((s.a : Nat) : Int))).setIfInBounds 2 (.int .u32 ((s.b : Nat) : Int))).setIfInBounds 3 (.int .u32 ((s.c : Nat) : Int))).setIfInBounds 4 (.int .u32 ((s.d : Nat) : Int))).setIfInBounds 5 (.int .u32 ((s.e : Nat) : Int))).setIfInBounds 6 (.int .u32 ((s.f : Nat) : Int))).setIfInBounds 7 (.int .u32 ((s.g : Nat) : Int))).setIfInBounds 8 (.int .u32 ((s.h : Nat) : Int))) = hcells s v n := by simp [hcells]
  rw [e] at h8
  exact h8
theorem set8_heap (w : World) (g : Nat) (s : Sp.St) {i : Nat} (h : i ≠ g) : (set8 w g s).heap[i]? = w.heap[i]? := by
  unfold Go.Proofs.Ytblgldllfllcpaa.set8
  rw [heap_setCell_other _ ⟨g, 8, none⟩ i _ h, heap_setCell_other _ ⟨g, 7, none⟩ i _ h, heap_setCell_other _ ⟨g, 6, none⟩ i _ h, heap_setCell_other _ ⟨g, 5, none⟩ i _ h, heap_setCell_other _ ⟨g, 4, none⟩ i _ h, heap_setCell_other _ ⟨g, 3, none⟩ i _ h, heap_setCell_other _ ⟨g, 2, none⟩ i _ h, heap_setCell_other _ ⟨g, 1, none⟩ i _ h]
theorem set8_only {S : Nat → Prop} {w w1 : World} {g : Nat} (h : Only S w w1) (hg : S g) (s : Sp.St) : Only S w (set8 w1 g s) := by
  unfold Go.Proofs.Ytblgldllfllcpaa.set8
  exact ((((((((h.setCell (.inl hg) _).setCell (.inl hg) _).setCell (.inl hg) _).setCell (.inl hg) _).setCell (.inl hg) _).setCell (.inl hg) _).setCell (.inl hg) _).setCell (.inl hg) _)
set_option maxHeartbeats 4000000 in
set_option maxRecDepth 100000 in
theorem write_calls (w : World) (g : Nat) (b : Option Nat) (t : List Nat) (s : ByteArray) (hh : HashOf w g b t) (hsz : t.length + s.size ≤ 1099511627776) :
    Calls Try.prog 15 #[.pointer (some ⟨g, 0, none⟩), .string s] w fun e w' => e = .returned (.tuple #[]) ∧ ∃ b', HashOf w' g b' (t ++ bts s) ∧ (∀ i, b' = some i → b = some i ∨ w.heap.size ≤ i) ∧ Only (feet g b) w w' := by
  obtain ⟨A, c, hB, hown, hbg, hk, hlt⟩ := hh
  have hT : Hid ((t ++ bts s).length = t.length + s.size) := Lib.hid (by rw [List.length_append, bts_length])
  have hTl : Hid (∀ x ∈ t ++ bts s, x < 256) := Lib.hid fun x hx => (List.mem_append.1 hx).elim (hlt x) (bts_lt s x)
  have hpre : Hid (Sp.blocks Sp.H0 t (t.length / 64) = Sp.blocks Sp.H0 (t ++ bts s) (t.length / 64)) := Lib.hid (Sp.blocks_prefix _ _ _ _ hk).symm
  have hrest : Hid (u8c (t.drop (64 * (t.length / 64))) ++ u8c (bts s) = u8c ((t ++ bts s).drop (64 * (t.length / 64)))) := Lib.hid (by rw [List.drop_append_of_le_length hk, u8c_append])
  have hn : Hid (t.length - 64 * (t.length / 64) + s.size = (t ++ bts s).length - 64 * (t.length / 64)) := Lib.hid (by rw [hT.out]; omega)
  generalize hTT : t ++ bts s = T at *
  have HT := Lib.hid hTT
  clear hTT
  obtain ⟨i0, hi0, hz0, hz1, hz2⟩ := info_parts info_u8
  have HI0 := Lib.hid hi0
  have HZ0 := Lib.hid hz0
  have HZ1 := Lib.hid hz1
  have HZ2 := Lib.hid hz2
  clear hi0 hz0 hz1 hz2
  have hkT : Hid (64 * (t.length / 64) ≤ T.length) := Lib.hid (by rw [hT.out]; omega)
  generalize hq : t.length / 64 = q at *
  have hN : t.length - 64 * q ≤ 1099511627776 := by omega
  generalize hnn : t.length - 64 * q = n at *
  generalize u8c (t.drop (64 * q)) = xs at *
  have c0 : w.cell? ⟨g, 0, none⟩ = some (.bool true) := by rw [hB.cell]; rfl
  have c10 : w.cell? ⟨g, 10, none⟩ = some (.int .u64 (t.length : Nat)) := by rw [hB.cell]; rfl
  have f10 := hB.frozen 10
  have hsum : ((t.length : Int) + (s.size : Int)) % 18446744073709551616 = ((t.length + s.size : Nat) : Int) := by omega
  have c9 : w.cell? ⟨g, 9, none⟩ = some (.slice A n c) := by rw [hB.cell]; rfl
  have f9 := hB.frozen 9
  have hs64 : Hid (n + s.size ≤ 1099511627776) := Lib.hid (by omega)
  clear hq hnn hN hk hlt
  go_enter Try.func15, Try.ntmps15
  go_upto_region 2 with (fail)
  generalize hw1 : World.setCell w _ _ = w1
  have hB1 : Blk w1 g 37 (hcells (Sp.blocks Sp.H0 t q) (.slice A n c) (t.length + s.size)) := by rw [← hw1]; exact hB.set_ 10 (.int .u64 ((t.length : Int) + (s.size : Int)))
  have hO1 : Only (feet g b) w w1 := by rw [← hw1]; exact (Only.refl _ _).setCell (.inl (.inl rfl)) _
  have hown1 : Own w1 1 (.slice A n c) b n xs := by
    refine hown.carry hO1.size fun i hi => ?_
    rw [← hw1]
    exact heap_setCell_other w ⟨g, 10, none⟩ i _ (by rintro rfl; exact hbg hi)
  have HW1 := Lib.hid hw1
  clear hw1 hB hown c0 c9 c10 f9 f10 hsum
  have c9 : w1.cell? ⟨g, 9, none⟩ = some (.slice A n c) := by rw [hB1.cell]; rfl
  go_wp2_with (first | (refine wpList_append_own2 rfl (.tmp 27) (.tmp 28) 34 9 rfl 5 i0 (.int .u8 0) 1 Try.underlying34 HI0.out HZ0.out HZ1.out HZ2.out rfl (by decide) rfl hown1 (.string s) s.size (byteCells s) rfl (Src.ofString w1 Try.underlying9 s) (by have := hs64.out; unfold maxLen; omega) (by have := hs64.out; omega) ?_; intro A2 c2 w2 b2 hown2 hgr2 hb2; have hB2 := hB1.carry_ (hgr2.block g hB1.lt (Ne.symm hbg)); have c92 : w2.cell? ⟨g, 9, none⟩ = some (.slice A n c) := (by rw [hB2.cell]; rfl); have f92 := hB2.frozen 9))
  generalize hw3 : World.setCell w2 _ _ = w3
  have hO3 : Hid (Only (feet g b) w w3) := Lib.hid (by
    rw [← hw3]
    exact (hO1.trans (Only.of_grown hgr2) fun k hk => .inl (.inr hk.symm)).setCell (.inl (.inl rfl)) _)
  have hb3 : Hid (∀ i, b2 = some i → b = some i ∨ w.heap.size ≤ i) := Lib.hid fun i hi => by
    rcases hb2 with h | h
    · exact .inl (h ▸ hi)
    · rw [h] at hi; cases hi; exact .inr hO1.size
  have hH3 : Hid (HashAt w3 g b2 T q T.length) := Lib.hid (by
    rw [← hw3]
    refine ⟨A2, c2, ?_, ?_, ?_, hkT.out, hTl.out⟩
    · rw [← hn.out, ← hpre.out, hT.out]
      exact hB2.set_ 9 _
    · rw [← hn.out, ← hrest.out, ← byteCells_bts]
      refine hown2.carry (by simp) fun i hi => heap_setCell_other w2 ⟨g, 9, none⟩ i _ ?_
      rintro rfl
      rcases hb2 with h | h
      · exact hbg (h ▸ hi)
      · rw [h] at hi; cases hi; exact absurd hB1.lt (Nat.lt_irrefl _)
    · rcases hb2 with h | h
      · rw [h]; exact hbg
      · rw [h]; intro e; cases e; exact absurd hB1.lt (Nat.lt_irrefl _))
  clear hw3 hb2 hgr2 hB2 c92 f92 hown2 hown1 hB1 hO1 HW1 c9 hT hTl hpre hrest hn hs64 HI0 HZ0 HZ1 HZ2
  have hqT : q ≤ T.length / 64 := by have := hkT.out; omega
  go_loopg [] (T.length / 64 - q) (fun gk wr => ∃ k b', gk = T.length / 64 - k ∧ k ≤ T.length / 64 ∧ Hid (HashAt wr g b' T k T.length) ∧ Hid (∀ i, b' = some i → b = some i ∨ w.heap.size ≤ i) ∧ Hid (Only (feet g b) w wr))
  case atStart => exact ⟨q, b2, rfl, hqT, hH3, hb3, hO3⟩
  case round =>
    clear hH3 hb3 hO3 hqT
    obtain ⟨k, b', rfl, hkle, hH, hb', hO⟩ := hrel
    obtain ⟨A, c, hB, hown, hbg', hkT', hTl⟩ := hH.out
    have c9 : wr.cell? ⟨g, 9, none⟩ = some (.slice A (T.length - 64 * k) c) := by rw [hB.cell]; rfl
    generalize hnn : T.length - 64 * k = n' at *
    by_cases h64 : 64 ≤ n'
    · have h64i : (64 : Int) ≤ (n' : Int) := by omega
      obtain ⟨st, hst⟩ : ∃ st, Hid (Sp.blocks Sp.H0 T k = st) := ⟨_, Lib.hid rfl⟩
      rw [hst.out] at hB
      obtain ⟨s1, s2, s3, s4, s5, s6, s7, s8⟩ := st
      obtain ⟨⟨c1, c2, c3, c4, c5, c6, c7, c8⟩, -⟩ := state_facts hB
      have hrow : Hid (Row wr A 64 fun j => .int .u8 (((T.drop (64 * k)).getD j 0 : Nat) : Int)) := Lib.hid (by
        obtain ⟨A', c', he, h1, h2, hr⟩ := hown.row
        cases he
        rcases hr with hr | ⟨pb, po, hA, hp, hc⟩
        · omega
        · have : n' = T.length - 64 * k := hnn.symm
          refine .inr ⟨pb, po, hA, hp, fun j hj => ?_⟩
          rw [hc j (by omega)]
          exact congrArg some (u8c_at _ (by rw [List.length_drop]; omega)))
      have hok : Sp.St.ok ⟨s1, s2, s3, s4, s5, s6, s7, s8⟩ := by rw [← hst.out]; exact Sp.blocks_ok Sp.H0_ok _ _
      have hbb : Hid (∀ j, (T.drop (64 * k)).getD j 0 < 256) := Lib.hid fun j => by
        rw [List.getD_eq_getElem?_getD, List.getElem?_drop]
        cases hj : T[64 * k + j]? with
        | none => simp
        | some x => exact hTl x (List.mem_of_getElem? hj)
      have HOK := Lib.hid hok
      clear hok
      obtain ⟨off, p, rfl, hcap⟩ : ∃ off p, A = some ⟨p, off, none⟩ ∧ n' ≤ c := by
        obtain ⟨A', c', he, h1, h2, hr⟩ := hown.row
        cases he
        rcases hr with hr | ⟨pb, po, hA, hp, hc⟩
        · omega
        · exact ⟨po, pb, hA, h1⟩
      have HTL := Lib.hid hTl
      clear hTl
      have hc64 : (64 : Int) ≤ (c : Int) := by omega
      have hc0 : ¬ c = 0 := by omega
      have hne0 : Hid (n' = T.length - 64 * k) := Lib.hid hnn.symm
      clear hnn
      go_upto_region 4 with (fail)
      obtain ⟨st', hst'⟩ : ∃ st', Hid (Sp.mixW ⟨s1, s2, s3, s4, s5, s6, s7, s8⟩ (Sp.w16 fun j => (T.drop (64 * k)).getD j 0) = st') := ⟨_, Lib.hid rfl⟩
      obtain ⟨r1, r2, r3, r4, r5, r6, r7, r8⟩ := st'
      have M := Lib.hid (mix_calls ⟨s1, s2, s3, s4, s5, s6, s7, s8⟩ (some ⟨p, off, none⟩) 64 c (fun j => (T.drop (64 * k)).getD j 0) wr.drew (Nat.le_refl _) (by decide) (hrow.out.drewN 1) hbb #[.int .u32 ((s1 : Nat) : Int), .int .u32 ((s2 : Nat) : Int), .int .u32 ((s3 : Nat) : Int), .int .u32 ((s4 : Nat) : Int), .int .u32 ((s5 : Nat) : Int), .int .u32 ((s6 : Nat) : Int), .int .u32 ((s7 : Nat) : Int), .int .u32 ((s8 : Nat) : Int)] (Lib.hid rfl) HOK.out)
      go_region_with (first | (go_at_call 23; (refine M.out.mono ?_); (rintro e w1 ⟨rfl, hbl⟩); (rw [hst'.out, u32s_list]); have hB1 := (Blk.drew hB).below hbl hB.lt; obtain ⟨⟨d1, d2, d3, d4, d5, d6, d7, d8⟩, e1, e2, e3, e4, e5, e6, e7, e8⟩ := state_facts hB1))
      all_goals
        generalize hw2 : (World.setCell (World.setCell (World.setCell (World.setCell (World.setCell (World.setCell (World.setCell (World.setCell w1 _ _) _ _) _ _) _ _) _ _) _ _) _ _) _ _) = w2
        obtain rfl : w2 = set8 w1 g ⟨r1, r2, r3, r4, r5, r6, r7, r8⟩ := hw2.symm
        have hB2 := Blk.set8 hB1 ⟨r1, r2, r3, r4, r5, r6, r7, r8⟩
        have hO2 : Only (feet g b) w (set8 w1 g ⟨r1, r2, r3, r4, r5, r6, r7, r8⟩) := set8_only ((hO.out.drewN 1).then_below hbl) (.inl rfl) _
        have hown2 : Own (set8 w1 g ⟨r1, r2, r3, r4, r5, r6, r7, r8⟩) 1 (.slice (some ⟨p, off, none⟩) n' c) b' n' (u8c (T.drop (64 * k))) :=
          ((hown.carry (w' := wr.drew) (Nat.le_refl _) fun _ _ => rfl).below hbl).carry (set8_only (Only.refl (fun k => k = g) w1) rfl _).size fun i hi => set8_heap _ _ _ (by rintro rfl; exact hbg' hi)
        generalize set8 w1 g ⟨r1, r2, r3, r4, r5, r6, r7, r8⟩ = w2 at hB2 hO2 hown2 ⊢
        have q9 : w2.cell? ⟨g, 9, none⟩ = some (.slice (some ⟨p, off, none⟩) n' c) := by rw [hB2.cell]; rfl
        have f9 := hB2.frozen 9
        clear d1 d2 d3 d4 d5 d6 d7 d8 e1 e2 e3 e4 e5 e6 e7 e8 c1 c2 c3 c4 c5 c6 c7 c8 c9 hB1 hbl M hrow hbb hB hown hO hH HOK
        go_wp2
      all_goals
        obtain ⟨b2, ho, hb2⟩ := hown2.cut (l := 64) (r := n') h64 (Nat.le_refl _)
        have hb2' : ∀ i, b2 = some i → b' = some i := by
          intro i hi
          rcases hb2 with h | h
          · rw [← h]; exact hi
          · rw [h] at hi; cases hi
        have hbk : Sp.blocks Sp.H0 T (k + 1) = ⟨r1, r2, r3, r4, r5, r6, r7, r8⟩ := by rw [← Sp.mix_step, hst.out]; exact hst'.out
        go_roundg (T.length / 64 - (k + 1))
        case measure => have := hne0.out; omega
        case rel =>
          refine ⟨k + 1, b2, rfl, by have := hne0.out; omega, Lib.hid ?_, Lib.hid (fun i hi => hb'.out i (hb2' i hi)), Lib.hid (hO2.setCell (.inl (.inl rfl)) _)⟩
          refine hash_next hB2 hbk hne0.out h64 ?_ (fun e => hbg' (hb2' g e)) HTL.out
          first
            | (rw [if_pos h] at ho; simpa [h] using ho)
            | (rw [if_neg h] at ho; simpa [Addr.add_lit] using ho)
    · have h64' : ¬ ((64 : Int) ≤ (n' : Int)) := by omega
      go_wp2
      refine bodyPost_end (results_none rfl _ _ _) rfl ⟨rfl, b', by have hke : k = T.length / 64 := (by omega); have := hH.out; rw [hke] at this; exact this, hb'.out, hO.out⟩
end Go.Proofs.Ytblgldllfllcpaa
