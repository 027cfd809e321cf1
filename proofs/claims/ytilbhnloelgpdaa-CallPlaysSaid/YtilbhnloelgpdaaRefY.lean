/- The reference's Number and Bytes. -/
import Derived.Test.YtilbhnloelgpdaaRefA
namespace Go.Proofs.Ytilbhnloelgpdaa
open Go.RowKit
set_option linter.unusedVariables false
set_option linter.unusedSimpArgs false
set_option maxHeartbeats 2000000 in
set_option maxRecDepth 20000 in
theorem rnumber_calls (w : World) (N : Nat) (hN : N ≤ 9007199254740992) :
    Calls Try.prog 66 #[.int .i64 (N : Int)] w fun e w' => e = .returned (.string (strOf (num N))) ∧ Below w.heap.size w w' := by
  obtain ⟨i0, hi0, hz0, hz1, hz2⟩ := info_parts info_u8
  have HI0 := Lib.hid hi0
  have HZ0 := Lib.hid hz0
  have HZ1 := Lib.hid hz1
  have HZ2 := Lib.hid hz2
  clear hi0 hz0 hz1 hz2
  go_enter Try.func66, Try.ntmps66
  go_wp2
  go_loopg [0, 3] (N + 1) (fun gk s0 s3 wr => ∃ (n : Nat) (l : List Nat) (A : Option Addr) (c : Nat), gk = n + 1 ∧ n ≤ N ∧ Hid (∃ f, l.length + f ≤ 8 ∧ n < 128 ^ (f + 1)) ∧ s0 = .int .i64 ((n : Nat) : Int) ∧ s3 = .slice A l.length c ∧ Hid (Mine w wr 1 (.slice A l.length c) l.length (u8c l)) ∧ Hid (Below w.heap.size w wr) ∧ Hid (l ++ num n = num N))
  case atStart => exact ⟨N, [], none, 0, rfl, Nat.le_refl _, Lib.hid ⟨7, by simp, by omega⟩, rfl, rfl, Lib.hid (Mine.empty _ _ _ _), Lib.hid (Below.refl _ _), Lib.hid rfl⟩
  case round =>
    obtain ⟨n, l, A, c, rfl, hn, hll, rfl, rfl, hm, hb, E⟩ := hrel
    have n0 : (0 : Int) ≤ (n : Int) := by omega
    obtain ⟨m, hmm⟩ : ∃ m, Hid (l.length = m) := ⟨_, Lib.hid rfl⟩
    rw [hmm.out] at hm ⊢
    have hmb : m ≤ 8 := by obtain ⟨f, h1, _⟩ := hll.out; rw [← hmm.out]; omega
    by_cases hlt : n < 128
    · have hltI : ¬ (127 : Int) < (n : Int) := by omega
      have E2 : Hid (l ++ [n] = num N) := Lib.hid (by rw [← E.out, num_small hlt])
      have hw8 : IntKind.u8.wrap (n : Int) = (n : Int) := by rw [IntKind.wrap_u8]; omega
      have hcv : Hid (∀ w1 A c, Mine w w1 1 (.slice A (m + 1) c) (m + 1) (u8c l ++ [.int .u8 (n : Int)]) → (convert 101 9 (.slice A (m + 1) c)).run Try.prog w1 = .ok (.string (strOf (num N))) w1) := Lib.hid fun w1 A c h => by
        rw [show u8c l ++ [.int .u8 (n : Int)] = u8c (num N) from by rw [← E2.out, u8c_append]; rfl] at h
        have hlen : (num N).length = m + 1 := by rw [← E2.out, List.length_append, hmm.out]; rfl
        obtain ⟨A', c', e, _, _, hr⟩ := h.row
        cases e
        rw [Nat.mul_one] at hr
        obtain ⟨pb, po, rfl, -, -⟩ := Row.at_ hr (by omega : 0 < m + 1)
        refine run_convert_bytes_arg (P := Try.prog) w1 101 5 (by kernel_rfl) (by kernel_rfl) pb po (m + 1) c ((num N).map fun (n : Nat) => (n : Int)) (by simp [hlen]) (fun i hi => ?_) 9 (by kernel_rfl)
        obtain ⟨b', o', e, _, h2⟩ := Row.at_ hr hi
        cases e
        rw [h2]
        simp [u8c, List.getD_eq_getElem?_getD, hlen, hi]
      obtain ⟨str, hstr⟩ : ∃ str, Hid (strOf (num N) = str) := ⟨_, Lib.hid rfl⟩
      rw [hstr.out] at hcv
      clear hlt
      go_wp2_with (first
        | (refine wpList_append_mine rfl (.tmp 15) (.tmp 18) 101 101 rfl 5 i0 (.int .u8 0) 1 Try.underlying101 HI0.out HZ0.out HZ1.out HZ2.out rfl (by decide) rfl (hm.out.alloc _) (hb.out.alloc hb.out.size _) _ 1 [.int .u8 (n : Int)] rfl (src_new Try.underlying101 _ _ _ 1 1 rfl (by simp [Value.oneCell'])) (by unfold maxLen; omega) (by omega) ?_; intro A2 c2 w2 hm2 hb2; have hv := hcv.out _ _ _ hm2; have HB2 := Lib.hid hb2; clear hm2 hb2))
      go_ret
      exact ⟨by rw [hstr.out]; rfl, HB2.out⟩
    · have hltI : (127 : Int) < (n : Int) := by omega
      have e1 : (n : Int).tmod 128 = ((n % 128 : Nat) : Int) := by rw [Int.tmod_eq_emod_of_nonneg n0]; omega
      obtain ⟨y, hy⟩ : ∃ y, Hid (n % 128 + 128 = y) := ⟨_, Lib.hid rfl⟩
      obtain ⟨r, hr⟩ : ∃ r, Hid (n % 128 = r) := ⟨_, Lib.hid rfl⟩
      have hyb : y < 256 := by rw [← hy.out]; omega
      rw [hr.out] at e1
      have e2 : IntKind.i64.wrap (128 + (r : Int)) = (y : Int) := by rw [IntKind.wrap_i64, ← hy.out, hr.out]; have := hr.out; omega
      have hw8 : IntKind.u8.wrap (y : Int) = (y : Int) := by rw [IntKind.wrap_u8]; omega
      obtain ⟨d, hd⟩ : ∃ d, Hid (n / 128 = d) := ⟨_, Lib.hid rfl⟩
      have hsh : (n : Int).tdiv 128 = (d : Int) := by rw [Int.tdiv_eq_ediv_of_nonneg n0, ← hd.out]; omega
      have hdn : Hid (d < n) := Lib.hid (by rw [← hd.out]; omega)
      have hdw : IntKind.i64.wrap (d : Int) = (d : Int) := by rw [IntKind.wrap_i64]; have := hdn.out; omega
      have E2 : Hid ((l ++ [y]) ++ num d = num N) := Lib.hid (by rw [← E.out, num_big hlt, hy.out, hd.out, List.append_assoc]; rfl)
      have hll2 : Hid (∃ f, (l ++ [y]).length + f ≤ 8 ∧ d < 128 ^ (f + 1)) := Lib.hid (by
        rw [← hd.out]
        obtain ⟨f, h1, h2⟩ := hll.out
        cases f with
        | zero => exact absurd (show n < 128 from h2) hlt
        | succ f =>
          refine ⟨f, by rw [List.length_append, List.length_singleton]; omega, ?_⟩
          rw [Nat.div_lt_iff_lt_mul (by omega)]
          rw [Nat.pow_succ] at h2
          exact h2)
      clear hlt
      go_wp2_with (first
        | (refine wpList_append_mine rfl (.tmp 6) (.tmp 11) 101 101 rfl 5 i0 (.int .u8 0) 1 Try.underlying101 HI0.out HZ0.out HZ1.out HZ2.out rfl (by decide) rfl (hm.out.alloc _) (hb.out.alloc hb.out.size _) _ 1 [.int .u8 (y : Int)] rfl (src_new Try.underlying101 _ _ _ 1 1 rfl (by simp [Value.oneCell'])) (by unfold maxLen; omega) (by omega) ?_; intro A2 c2 w2 hm2 hb2; have HM2 := Lib.hid hm2; have HB2 := Lib.hid hb2; clear hm2 hb2))
      go_roundg (d + 1)
      case measure => have := hdn.out; omega
      case rel =>
        have hl1 : (l ++ [y]).length = m + 1 := by rw [List.length_append, hmm.out]; rfl
        exact ⟨d, l ++ [y], A2, c2, rfl, by have := hdn.out; omega, hll2, by first | rfl | go_num, by rw [hl1], Lib.hid (by rw [hl1, u8c_append]; exact HM2.out), HB2, E2⟩
theorem rnum_int (w : World) (v : Int) (h0 : 0 ≤ v) (h1 : v ≤ 9007199254740992) : Calls Try.prog 66 #[.int .i64 v] w (Told w (.string (strOf (num v.toNat)))) := by
  obtain ⟨N, rfl⟩ := Int.eq_ofNat_of_zero_le h0
  rw [Int.toNat_natCast]
  exact rnumber_calls w N (by omega)
theorem catN_six (L : List Int) (o : Ord) : catN (L ++ onum o) = catN L ++ strOf (num o.id.toNat) ++ strOf (num o.owner.toNat) ++ strOf (num (if o.buys = true then (0 : Int) else 1).toNat) ++ strOf (num o.price.toNat) ++ strOf (num o.amount.toNat) ++ strOf (num o.place.toNat) := by
  unfold onum
  rw [show L ++ [o.id, o.owner, if o.buys = true then 0 else 1, o.price, o.amount, o.place] = L ++ [o.id] ++ [o.owner] ++ [if o.buys = true then 0 else 1] ++ [o.price] ++ [o.amount] ++ [o.place] from by simp]
  rw [catN_snoc, catN_snoc, catN_snoc, catN_snoc, catN_snoc, catN_snoc]
set_option maxHeartbeats 16000000 in
set_option maxRecDepth 100000 in
theorem rbytes_calls (w : World) (A : Option Addr) (b : Bk) (c : Nat) (h : ORow w A b.l) (hok : b.Ok) :
    Calls Try.prog 54 #[rval A c b] w (Told w (.string b.bytes)) := by
  have hfew := hok.few
  have HOk := Lib.hid hok
  have hnb := hok.next0
  have hnb1 := hok.next1
  have H := Lib.hid h
  obtain ⟨n, hn⟩ : ∃ n, Hid (b.l.length = n) := ⟨_, Lib.hid rfl⟩
  obtain ⟨nx, hnx⟩ : ∃ nx, Hid (b.next = nx) := ⟨_, Lib.hid rfl⟩
  obtain ⟨T, hT⟩ : ∃ T, Hid (b.bytes = T) := ⟨_, Lib.hid rfl⟩
  unfold rval
  rw [hT.out, hn.out, hnx.out]
  rw [hn.out] at hfew
  rw [hnx.out] at hnb hnb1
  have hb0 : Hid (Below w.heap.size w (w.alloc (.cells #[.slice A n c, .int .i64 nx] 53))) := Lib.hid ((Below.refl _ _).alloc (Nat.le_refl _) _)
  have B0 := Lib.hid (Blk.new w 53 #[.slice A n c, .int .i64 nx])
  have hcat : Hid (∀ i, catN ([nx, (n : Int)] ++ (b.l.take i).flatMap onum) = catN ([nx, (n : Int)] ++ (b.l.take i).flatMap onum)) := Lib.hid fun i => rfl
  have hst : Hid (catN ([nx, (n : Int)] ++ (b.l.take 0).flatMap onum) = strOf (num nx.toNat) ++ strOf (num (n : Int).toNat)) := Lib.hid (by
    rw [List.take_zero, List.flatMap_nil, List.append_nil, show [nx, (n : Int)] = [] ++ [nx] ++ [(n : Int)] from rfl, catN_snoc, catN_snoc]
    show (⟨#[]⟩ : ByteArray) ++ _ ++ _ = _
    rw [show (⟨#[]⟩ : ByteArray) = ByteArray.empty from rfl, ByteArray.empty_append])
  have hfin : Hid (catN ([nx, (n : Int)] ++ (b.l.take n).flatMap onum) = T) := Lib.hid (by
    rw [← hT.out, List.take_of_length_le (by rw [hn.out]; exact Nat.le_refl _), ← hn.out, ← hnx.out]; rfl)
  have hszc : Hid (∀ i, i ≤ 64 → (catN ([nx, (n : Int)] ++ (b.l.take i).flatMap onum)).size ≤ 3088) := Lib.hid fun i hi => by
    have := catN_size ([nx, (n : Int)] ++ (b.l.take i).flatMap onum) (fun v hv => laid_bound HOk.out v (by
      unfold Bk.laid
      rw [hn.out, hnx.out]
      rcases List.mem_append.1 hv with hv | hv
      · exact List.mem_append_left _ hv
      · obtain ⟨o, ho, hv⟩ := List.mem_flatMap.1 hv
        exact List.mem_append_right _ (List.mem_flatMap.2 ⟨o, List.mem_of_mem_take ho, hv⟩)))
    rw [List.length_append, onums_length, List.length_take] at this
    simp only [List.length_cons, List.length_nil] at this
    omega
  have hs1 := strOf_size nx.toNat (by omega)
  have hs2 := strOf_size (n : Int).toNat (by omega)
  clear h hok hcat
  go_enter Try.func54, Try.ntmps54
  go_upto_region 1 with (fail)
  obtain ⟨g, hg⟩ : ∃ g, Hid (w.heap.size = g) := ⟨_, Lib.hid rfl⟩
  rw [hg.out] at B0 ⊢
  generalize World.alloc w _ = wy at hb0 B0 ⊢
  have HC : Hid (∀ wx, Below wy.heap.size wy wx → wx.cell? ⟨g, 0, none⟩ = some (.slice A n c) ∧ wx.cell? ⟨g, 1, none⟩ = some (.int .i64 nx)) := Lib.hid fun wx hb => by
    have b0 := B0.out.below hb B0.out.lt
    exact ⟨b0.cell 0, b0.cell 1⟩
  have HS0 : Hid ((wy.drew.cell? ⟨g, 0, none⟩ = some (.slice A n c) ∧ wy.drew.cell? ⟨g, 1, none⟩ = some (.int .i64 nx)) ∧ Hid (Below wy.heap.size wy wy.drew)) := Lib.hid ⟨HC.out _ (Below.refl _ _).drew, Lib.hid (Below.refl _ _).drew⟩
  have K1 : Hid (∀ wx, ((wx.cell? ⟨g, 0, none⟩ = some (.slice A n c) ∧ wx.cell? ⟨g, 1, none⟩ = some (.int .i64 nx)) ∧ Hid (Below wy.heap.size wy wx)) → Calls Try.prog 66 #[.int .i64 nx] wx fun e wx => e = .returned (.string (strOf (num nx.toNat))) ∧ ((wx.cell? ⟨g, 0, none⟩ = some (.slice A n c) ∧ wx.cell? ⟨g, 1, none⟩ = some (.int .i64 nx)) ∧ Hid (Below wy.heap.size wy wx))) := Lib.hid fun wx hs => (rnum_int wx nx (by omega) hnb1).mono (by
    rintro e w' ⟨rfl, hb⟩
    have hbw := below_next hs.2.out hb
    exact ⟨rfl, HC.out _ hbw, Lib.hid hbw⟩)
  have K2 : Hid (∀ wx, ((wx.cell? ⟨g, 0, none⟩ = some (.slice A n c) ∧ wx.cell? ⟨g, 1, none⟩ = some (.int .i64 nx)) ∧ Hid (Below wy.heap.size wy wx)) → Calls Try.prog 66 #[.int .i64 (n : Int)] wx fun e wx => e = .returned (.string (strOf (num (n : Int).toNat))) ∧ ((wx.cell? ⟨g, 0, none⟩ = some (.slice A n c) ∧ wx.cell? ⟨g, 1, none⟩ = some (.int .i64 nx)) ∧ Hid (Below wy.heap.size wy wx))) := Lib.hid fun wx hs => (rnum_int wx (n : Int) (by omega) (by omega)).mono (by
    rintro e w' ⟨rfl, hb⟩
    have hbw := below_next hs.2.out hb
    exact ⟨rfl, HC.out _ hbw, Lib.hid hbw⟩)
  generalize strOf (num nx.toNat) = t1 at K1 hst hs1
  generalize strOf (num (n : Int).toNat) = t2 at K2 hst hs2
  have hsz := fun w => run_string_add_sum (P := Try.prog) w t1 t2 (by omega)
  go_region_held3 (fun wx => ((wx.cell? ⟨g, 0, none⟩ = some (.slice A n c) ∧ wx.cell? ⟨g, 1, none⟩ = some (.int .i64 nx)) ∧ Hid (Below wy.heap.size wy wx)))
    (first | assumption | exact HS0.out)
    ((go_at_call 66; first
      | ((with_reducible refine (K1.out _ (by assumption)).mono ?_); rintro e wn ⟨rfl, hsn⟩)
      | ((with_reducible refine (K2.out _ (by assumption)).mono ?_); rintro e wn ⟨rfl, hsn⟩)))
  have hbz0 := Lib.hid (below_next hb0.out hsn.2.out)
  have hbz1 := Lib.hid hsn.2.out
  clear hsn HS0 K1 K2 hsz hs1 hs2
  go_upto_region 3 with (fail)
  go_loopg [3, 4] (n + 1) (fun gk s3 s4 wr => ∃ i : Nat, gk = n + 1 - i ∧ i ≤ n ∧ s4 = .int .i64 (i : Int) ∧ s3 = .string (catN ([nx, (n : Int)] ++ (b.l.take i).flatMap onum)) ∧ Hid (Below wy.heap.size wy wr))
  case atStart => exact ⟨0, rfl, Nat.zero_le _, rfl, by rw [hst.out], hbz1⟩
  case round =>
    clear hbz0 hbz1
    obtain ⟨i, rfl, hi, rfl, rfl, hbz⟩ := hrel
    have i0 : (0 : Int) ≤ (i : Int) := by omega
    obtain ⟨x0, x1⟩ := HC.out wr hbz.out
    by_cases hil : i < n
    · have hiI : (i : Int) < (n : Int) := by omega
      have hiL : Hid (i < b.l.length) := Lib.hid (by rw [hn.out]; exact hil)
      obtain ⟨pb, po, rfl⟩ : ∃ b o, A = some ⟨b, o, none⟩ := by
        obtain ⟨b, o, e, _⟩ := H.out.cells hiL.out
        exact ⟨b, o, e⟩
      obtain ⟨c0, c1, c2, c3, c4, c5⟩ := ORow.six H.out hiL.out (below_next hb0.out hbz.out)
      have HM := Lib.hid (show n + 1 - (i + 1) < n + 1 - i by omega)
      have hsn := Lib.hid (show catN ([nx, (n : Int)] ++ (b.l.take (i + 1)).flatMap onum) = catN (([nx, (n : Int)] ++ (b.l.take i).flatMap onum) ++ onum (b.l.getD i ord0)) by
        rw [Ca.take_at b.l hiL.out, List.flatMap_append, List.append_assoc]; simp)
      have hob := Lib.hid (onum_bound (HOk.out.right _ (getD_mem hiL.out)) (by have := HOk.out.span _ (getD_mem hiL.out); have := HOk.out.next1; omega))
      have hs0 := hszc.out i (by omega)
      rw [catN_six] at hsn
      generalize b.l.getD i ord0 = q at c0 c1 c2 c3 c4 c5 hsn hob
      obtain ⟨qi, qo, qp, qa, qpl, qb⟩ := q
      simp only at c0 c1 c2 c3 c4 c5
      have hob' : Hid ((0 ≤ qi ∧ qi ≤ 9007199254740992) ∧ (0 ≤ qo ∧ qo ≤ 9007199254740992) ∧ (0 ≤ qp ∧ qp ≤ 9007199254740992) ∧ (0 ≤ qa ∧ qa ≤ 9007199254740992) ∧ (0 ≤ qpl ∧ qpl ≤ 9007199254740992)) := Lib.hid (by
        have := hob.out
        simp [onum] at this
        exact ⟨this.1, this.2.1, this.2.2.2.1, this.2.2.2.2.1, this.2.2.2.2.2⟩)
      generalize catN ([nx, (n : Int)] ++ (b.l.take i).flatMap onum) = s at hsn hs0 ⊢
      clear hob
      go_upto_region 6 with (fail)
      have hbx : Hid (Below wy.heap.size wy (wr.alloc (.cells #[.int .i64 qi, .int .i64 qo, .int .i64 qp, .int .i64 qa, .int .i64 qpl, .bool qb] 33))) := Lib.hid (hbz.out.alloc hbz.out.size _)
      have BA := Lib.hid (Blk.new wr 33 #[.int .i64 qi, .int .i64 qo, .int .i64 qp, .int .i64 qa, .int .i64 qpl, .bool qb])
      obtain ⟨g2, hg2⟩ : ∃ g2, Hid (wr.heap.size = g2) := ⟨_, Lib.hid rfl⟩
      rw [hg2.out] at BA ⊢
      clear c0 c1 c2 c3 c4 c5 x0 x1 hbz
      obtain ⟨wo, hwo⟩ : ∃ wo, wo = wr := ⟨_, rfl⟩
      subst hwo
      generalize World.alloc wo _ = wz at hbx BA ⊢
      have hbz := hbx
      have HC6 : Hid (∀ wx, Below wz.heap.size wz wx → (wx.cell? ⟨g2, 0, none⟩ = some (.int .i64 qi) ∧ wx.cell? ⟨g2, 1, none⟩ = some (.int .i64 qo) ∧ wx.cell? ⟨g2, 2, none⟩ = some (.int .i64 qp) ∧ wx.cell? ⟨g2, 3, none⟩ = some (.int .i64 qa) ∧ wx.cell? ⟨g2, 4, none⟩ = some (.int .i64 qpl) ∧ wx.cell? ⟨g2, 5, none⟩ = some (.bool qb))) := Lib.hid fun wx hb => by
        have b0 := BA.out.below hb BA.out.lt
        exact ⟨b0.cell 0, b0.cell 1, b0.cell 2, b0.cell 3, b0.cell 4, b0.cell 5⟩
      have HS0 : Hid ((wz.drew.cell? ⟨g2, 0, none⟩ = some (.int .i64 qi) ∧ wz.drew.cell? ⟨g2, 1, none⟩ = some (.int .i64 qo) ∧ wz.drew.cell? ⟨g2, 2, none⟩ = some (.int .i64 qp) ∧ wz.drew.cell? ⟨g2, 3, none⟩ = some (.int .i64 qa) ∧ wz.drew.cell? ⟨g2, 4, none⟩ = some (.int .i64 qpl) ∧ wz.drew.cell? ⟨g2, 5, none⟩ = some (.bool qb)) ∧ Hid (Below wz.heap.size wz wz.drew)) := Lib.hid ⟨HC6.out _ (Below.refl _ _).drew, Lib.hid (Below.refl _ _).drew⟩
      have KK : Hid (∀ v : Int, 0 ≤ v → v ≤ 9007199254740992 → ∀ t, strOf (num v.toNat) = t → ∀ wx, ((wx.cell? ⟨g2, 0, none⟩ = some (.int .i64 qi) ∧ wx.cell? ⟨g2, 1, none⟩ = some (.int .i64 qo) ∧ wx.cell? ⟨g2, 2, none⟩ = some (.int .i64 qp) ∧ wx.cell? ⟨g2, 3, none⟩ = some (.int .i64 qa) ∧ wx.cell? ⟨g2, 4, none⟩ = some (.int .i64 qpl) ∧ wx.cell? ⟨g2, 5, none⟩ = some (.bool qb)) ∧ Hid (Below wz.heap.size wz wx)) → Calls Try.prog 66 #[.int .i64 v] wx fun e wx => e = .returned (.string t) ∧ ((wx.cell? ⟨g2, 0, none⟩ = some (.int .i64 qi) ∧ wx.cell? ⟨g2, 1, none⟩ = some (.int .i64 qo) ∧ wx.cell? ⟨g2, 2, none⟩ = some (.int .i64 qp) ∧ wx.cell? ⟨g2, 3, none⟩ = some (.int .i64 qa) ∧ wx.cell? ⟨g2, 4, none⟩ = some (.int .i64 qpl) ∧ wx.cell? ⟨g2, 5, none⟩ = some (.bool qb)) ∧ Hid (Below wz.heap.size wz wx))) := Lib.hid fun v h0 h1 t ht wx hs => (rnum_int wx v h0 h1).mono (by
        rintro e w' ⟨rfl, hb⟩
        have hbw := below_next hs.2.out hb
        exact ⟨by rw [ht], HC6.out _ hbw, Lib.hid hbw⟩)
      have Z0 := Lib.hid (strOf_size qi.toNat (by have := hob'.out.1; omega))
      have Z1 := Lib.hid (strOf_size qo.toNat (by have := hob'.out.2.1; omega))
      have Z2 := Lib.hid (strOf_size qp.toNat (by have := hob'.out.2.2.1; omega))
      have Z3 := Lib.hid (strOf_size qa.toNat (by have := hob'.out.2.2.2.1; omega))
      have Z4 := Lib.hid (strOf_size qpl.toNat (by have := hob'.out.2.2.2.2; omega))
      have ZS := Lib.hid (strOf_size (if qb = true then (0 : Int) else 1).toNat (by split <;> decide))
      obtain ⟨t0, HT0⟩ : ∃ t, Hid (strOf (num qi.toNat) = t) := ⟨_, Lib.hid rfl⟩
      obtain ⟨t1, HT1⟩ : ∃ t, Hid (strOf (num qo.toNat) = t) := ⟨_, Lib.hid rfl⟩
      obtain ⟨t2, HT2⟩ : ∃ t, Hid (strOf (num qp.toNat) = t) := ⟨_, Lib.hid rfl⟩
      obtain ⟨t3, HT3⟩ : ∃ t, Hid (strOf (num qa.toNat) = t) := ⟨_, Lib.hid rfl⟩
      obtain ⟨t4, HT4⟩ : ∃ t, Hid (strOf (num qpl.toNat) = t) := ⟨_, Lib.hid rfl⟩
      obtain ⟨ts, HTS0⟩ : ∃ t, Hid (strOf (num (if qb = true then (0 : Int) else 1).toNat) = t) := ⟨_, Lib.hid rfl⟩
      simp only at hsn
      rw [HT0.out, HT1.out, HT2.out, HT3.out, HT4.out, HTS0.out] at hsn
      rw [HT0.out] at Z0
      rw [HT1.out] at Z1
      rw [HT2.out] at Z2
      rw [HT3.out] at Z3
      rw [HT4.out] at Z4
      rw [HTS0.out] at ZS
      have HN := hsn
      have K0 := Lib.hid (KK.out qi hob'.out.1.1 hob'.out.1.2 t0 HT0.out)
      have K1 := Lib.hid (KK.out qo hob'.out.2.1.1 hob'.out.2.1.2 t1 HT1.out)
      have K2 := Lib.hid (KK.out qp hob'.out.2.2.1.1 hob'.out.2.2.1.2 t2 HT2.out)
      have K3 := Lib.hid (KK.out qa hob'.out.2.2.2.1.1 hob'.out.2.2.2.1.2 t3 HT3.out)
      have K4 := Lib.hid (KK.out qpl hob'.out.2.2.2.2.1 hob'.out.2.2.2.2.2 t4 HT4.out)
      have L0 := fun w => run_string_add_sum (P := Try.prog) w s t0 (by have := Z0.out; omega)
      have L1 := fun w => run_string_add_sum (P := Try.prog) w (s ++ t0) t1 (by have := Z0.out; have := Z1.out; rw [ByteArray.size_append]; omega)
      have L2 := fun w => run_string_add_sum (P := Try.prog) w (s ++ t0 ++ t1) ts (by have := Z0.out; have := Z1.out; have := ZS.out; rw [ByteArray.size_append, ByteArray.size_append]; omega)
      have L3 := fun w => run_string_add_sum (P := Try.prog) w (s ++ t0 ++ t1 ++ ts) t2 (by have := Z0.out; have := Z1.out; have := ZS.out; have := Z2.out; rw [ByteArray.size_append, ByteArray.size_append, ByteArray.size_append]; omega)
      have L4 := fun w => run_string_add_sum (P := Try.prog) w (s ++ t0 ++ t1 ++ ts ++ t2) t3 (by have := Z0.out; have := Z1.out; have := ZS.out; have := Z2.out; have := Z3.out; rw [ByteArray.size_append, ByteArray.size_append, ByteArray.size_append, ByteArray.size_append]; omega)
      have L5 := fun w => run_string_add_sum (P := Try.prog) w (s ++ t0 ++ t1 ++ ts ++ t2 ++ t3) t4 (by have := Z0.out; have := Z1.out; have := ZS.out; have := Z2.out; have := Z3.out; have := Z4.out; rw [ByteArray.size_append, ByteArray.size_append, ByteArray.size_append, ByteArray.size_append, ByteArray.size_append]; omega)
      have c5 : wz.cell? ⟨g2, 5, none⟩ = some (.bool qb) := BA.out.cell 5
      clear hs0 hsn
      cases qb with
      | true =>
        have HTS : Hid (strOf (num (0 : Int).toNat) = ts) := Lib.hid (by have := HTS0.out; rwa [if_pos rfl] at this)
        have KS : Hid (∀ wx, ((wx.cell? ⟨g2, 0, none⟩ = some (.int .i64 qi) ∧ wx.cell? ⟨g2, 1, none⟩ = some (.int .i64 qo) ∧ wx.cell? ⟨g2, 2, none⟩ = some (.int .i64 qp) ∧ wx.cell? ⟨g2, 3, none⟩ = some (.int .i64 qa) ∧ wx.cell? ⟨g2, 4, none⟩ = some (.int .i64 qpl) ∧ wx.cell? ⟨g2, 5, none⟩ = some (.bool true)) ∧ Hid (Below wz.heap.size wz wx)) → Calls Try.prog 66 #[.int .i64 0] wx fun e wx => e = .returned (.string ts) ∧ ((wx.cell? ⟨g2, 0, none⟩ = some (.int .i64 qi) ∧ wx.cell? ⟨g2, 1, none⟩ = some (.int .i64 qo) ∧ wx.cell? ⟨g2, 2, none⟩ = some (.int .i64 qp) ∧ wx.cell? ⟨g2, 3, none⟩ = some (.int .i64 qa) ∧ wx.cell? ⟨g2, 4, none⟩ = some (.int .i64 qpl) ∧ wx.cell? ⟨g2, 5, none⟩ = some (.bool true)) ∧ Hid (Below wz.heap.size wz wx))) := Lib.hid (KK.out 0 (by decide) (by decide) ts HTS.out)
        go_upto_region 9 with (fail)
        go_region_held3 (fun wx => ((wx.cell? ⟨g2, 0, none⟩ = some (.int .i64 qi) ∧ wx.cell? ⟨g2, 1, none⟩ = some (.int .i64 qo) ∧ wx.cell? ⟨g2, 2, none⟩ = some (.int .i64 qp) ∧ wx.cell? ⟨g2, 3, none⟩ = some (.int .i64 qa) ∧ wx.cell? ⟨g2, 4, none⟩ = some (.int .i64 qpl) ∧ wx.cell? ⟨g2, 5, none⟩ = some (.bool true)) ∧ Hid (Below wz.heap.size wz wx)))
          (first | assumption | exact HS0.out)
          ((go_at_call 66; first
            | ((with_reducible refine (K0.out _ (by assumption)).mono ?_); rintro e wn ⟨rfl, hsn⟩)
            | ((with_reducible refine (K1.out _ (by assumption)).mono ?_); rintro e wn ⟨rfl, hsn⟩)
            | ((with_reducible refine (KS.out _ (by assumption)).mono ?_); rintro e wn ⟨rfl, hsn⟩)
            | ((with_reducible refine (K2.out _ (by assumption)).mono ?_); rintro e wn ⟨rfl, hsn⟩)
            | ((with_reducible refine (K3.out _ (by assumption)).mono ?_); rintro e wn ⟨rfl, hsn⟩)
            | ((with_reducible refine (K4.out _ (by assumption)).mono ?_); rintro e wn ⟨rfl, hsn⟩)))
        go_wp2
        go_roundg (n + 1 - (i + 1))
        case measure => exact HM.out
        case rel => exact ⟨i + 1, rfl, by omega, by first | rfl | go_num, by rw [HN.out], Lib.hid (below_next hbz.out hsn.2.out)⟩
      | false =>
        have HTS : Hid (strOf (num (1 : Int).toNat) = ts) := Lib.hid (by have := HTS0.out; rwa [if_neg (by decide)] at this)
        have KS : Hid (∀ wx, ((wx.cell? ⟨g2, 0, none⟩ = some (.int .i64 qi) ∧ wx.cell? ⟨g2, 1, none⟩ = some (.int .i64 qo) ∧ wx.cell? ⟨g2, 2, none⟩ = some (.int .i64 qp) ∧ wx.cell? ⟨g2, 3, none⟩ = some (.int .i64 qa) ∧ wx.cell? ⟨g2, 4, none⟩ = some (.int .i64 qpl) ∧ wx.cell? ⟨g2, 5, none⟩ = some (.bool false)) ∧ Hid (Below wz.heap.size wz wx)) → Calls Try.prog 66 #[.int .i64 1] wx fun e wx => e = .returned (.string ts) ∧ ((wx.cell? ⟨g2, 0, none⟩ = some (.int .i64 qi) ∧ wx.cell? ⟨g2, 1, none⟩ = some (.int .i64 qo) ∧ wx.cell? ⟨g2, 2, none⟩ = some (.int .i64 qp) ∧ wx.cell? ⟨g2, 3, none⟩ = some (.int .i64 qa) ∧ wx.cell? ⟨g2, 4, none⟩ = some (.int .i64 qpl) ∧ wx.cell? ⟨g2, 5, none⟩ = some (.bool false)) ∧ Hid (Below wz.heap.size wz wx))) := Lib.hid (KK.out 1 (by decide) (by decide) ts HTS.out)
        go_upto_region 9 with (fail)
        go_region_held3 (fun wx => ((wx.cell? ⟨g2, 0, none⟩ = some (.int .i64 qi) ∧ wx.cell? ⟨g2, 1, none⟩ = some (.int .i64 qo) ∧ wx.cell? ⟨g2, 2, none⟩ = some (.int .i64 qp) ∧ wx.cell? ⟨g2, 3, none⟩ = some (.int .i64 qa) ∧ wx.cell? ⟨g2, 4, none⟩ = some (.int .i64 qpl) ∧ wx.cell? ⟨g2, 5, none⟩ = some (.bool false)) ∧ Hid (Below wz.heap.size wz wx)))
          (first | assumption | exact HS0.out)
          ((go_at_call 66; first
            | ((with_reducible refine (K0.out _ (by assumption)).mono ?_); rintro e wn ⟨rfl, hsn⟩)
            | ((with_reducible refine (K1.out _ (by assumption)).mono ?_); rintro e wn ⟨rfl, hsn⟩)
            | ((with_reducible refine (KS.out _ (by assumption)).mono ?_); rintro e wn ⟨rfl, hsn⟩)
            | ((with_reducible refine (K2.out _ (by assumption)).mono ?_); rintro e wn ⟨rfl, hsn⟩)
            | ((with_reducible refine (K3.out _ (by assumption)).mono ?_); rintro e wn ⟨rfl, hsn⟩)
            | ((with_reducible refine (K4.out _ (by assumption)).mono ?_); rintro e wn ⟨rfl, hsn⟩)))
        go_wp2
        go_roundg (n + 1 - (i + 1))
        case measure => exact HM.out
        case rel => exact ⟨i + 1, rfl, by omega, by first | rfl | go_num, by rw [HN.out], Lib.hid (below_next hbz.out hsn.2.out)⟩
    · obtain rfl : n = i := by omega
      rw [hfin.out]
      go_wp2
      refine bodyPost_ret (by simp [results, Try.results54, asAddr, go_sem]; rfl) rfl ?_
      exact ⟨rfl, below_next hb0.out hbz.out⟩
end Go.Proofs.Ytilbhnloelgpdaa
