/- What was read is the shortest form of what it says; bytes that are wholly read are laid numbers. -/
import Derived.Test.YtccmafmeblojpaaOf
namespace Go.Proofs.Ytccmafmeblojpaa
theorem rdGo_inv : ∀ (bs : List Nat) (i n m u : Nat), (∀ c ∈ bs, c < 256) → rdGo bs i n = .ok m u → i < u ∧ ∃ N, m = n + N * 128 ^ i ∧ bs.take (u - i) = num N ∧ (0 < i → 0 < N)
  | [], i, n, m, u, _, h => by simp [rdGo] at h
  | c :: bs, i, n, m, u, hb, h => by
    have hc : c < 256 := hb c (List.mem_cons_self ..)
    rw [rdGo] at h
    split at h
    · rename_i h128
      split at h
      · simp at h
      · obtain ⟨h1, N, h2, h3, h4⟩ := rdGo_inv bs _ _ _ _ (fun x hx => hb x (List.mem_cons_of_mem _ hx)) h
        have h5 := h4 (by omega)
        refine ⟨by omega, c % 128 + 128 * N, ?_, ?_, fun _ => by omega⟩
        · rw [h2, Nat.pow_succ, Nat.add_mul, Nat.mul_comm (128 ^ i) 128, ← Nat.mul_assoc, Nat.mul_comm N 128, Nat.add_assoc]
        · rw [num_big (by omega), show u - i = (u - (i + 1)) + 1 from by omega, List.take_succ_cons, h3]
          congr 1
          · omega
          · congr 1; omega
    · rename_i h128
      split at h
      · simp at h
      · rename_i hok
        injection h with e1 e2
        refine ⟨by omega, c, e1.symm, ?_, fun hi => ?_⟩
        · rw [← e2, show i + 1 - i = 1 from by omega, num_small (by omega)]; rfl
        · rcases Nat.eq_zero_or_pos c with hz | hz
          · exact (hok (.inl ⟨hz, hi⟩)).elim
          · exact hz
theorem byt_inj {s t : ByteArray} (h : byt s = byt t) : s = t := by
  unfold byt at h
  have h2 : s.data.toList = t.data.toList := by
    have hinj : ∀ (l m : List UInt8), l.map UInt8.toNat = m.map UInt8.toNat → l = m := by
      intro l
      induction l with
      | nil => intro m hm; cases m with
        | nil => rfl
        | cons _ _ => simp at hm
      | cons a l ih =>
        intro m hm
        cases m with
        | nil => simp at hm
        | cons b m =>
          rw [List.map_cons, List.map_cons] at hm
          injection hm with e1 e2
          rw [ih m e2, UInt8.toNat_inj.1 e1]
    exact hinj _ _ h
  have h3 : s.data = t.data := Array.ext' h2
  cases s; cases t; simp_all
theorem bytN_one (n : Nat) : bytN [(n : Int)] = num n := by simp [bytN]
/-- One number more. -/
theorem read_on {s : ByteArray} {L : List Int} {p n u : Nat} (h : byt s = bytN L ++ (byt s).drop p) (hr : rdGo ((byt s).drop p) 0 0 = .ok n u) : byt s = bytN (L ++ [(n : Int)]) ++ (byt s).drop (p + u) := by
  obtain ⟨h1, N, h2, h3, _⟩ := rdGo_inv _ 0 0 n u (fun c hc => byt_lt s c (List.mem_of_mem_drop hc)) hr
  have h4 : n = N := by omega
  rw [Nat.sub_zero] at h3
  have h5 : (byt s).drop p = num N ++ (byt s).drop (p + u) := by
    rw [← h3, ← List.drop_drop, List.take_append_drop]
  rw [bytN_append, bytN_one, h4, List.append_assoc, ← h5]
  exact h
/-- The auction that so many numbers are. -/
def pairsOf : List Int → List (Int × Int)
  | a :: b :: l => (a, b) :: pairsOf l
  | _ => []
theorem pairsOf_flat : ∀ (n : Nat) (l : List Int), l.length = 2 * n → (pairsOf l).flatMap (fun p => [p.1, p.2]) = l ∧ (pairsOf l).length = n
  | 0, l, h => by
    have : l = [] := List.eq_nil_of_length_eq_zero (by omega)
    subst this; exact ⟨rfl, rfl⟩
  | n + 1, [], h => by simp at h
  | n + 1, [_], h => by simp at h; omega
  | n + 1, a :: b :: l, h => by
    have := pairsOf_flat n l (by simp at h; omega)
    rw [pairsOf]
    refine ⟨?_, by rw [List.length_cons, this.2]⟩
    rw [List.flatMap_cons, this.1]; rfl
def aucOf (L : List Int) : Auc := ⟨L.getD 0 0, L.getD 1 0, L.getD 2 0, L.getD 3 0, L.getD 4 0, pairsOf (L.drop 6)⟩
theorem aucOf_laid {L : List Int} {n : Nat} (h : L.length = 6 + 2 * n) (h5 : L.getD 5 0 = (n : Int)) : (aucOf L).laid = L ∧ (aucOf L).l.length = n := by
  have hp := pairsOf_flat n (L.drop 6) (by rw [List.length_drop]; omega)
  refine ⟨?_, hp.2⟩
  unfold Auc.laid aucOf
  rw [hp.1, hp.2]
  match L, h, h5 with
  | a :: b :: c :: d :: e :: f :: l, _, h5 =>
    have e : f = (n : Int) := h5
    rw [e]; rfl
  | [], h, _ => simp at h; omega
  | [_], h, _ => simp at h; omega
  | [_, _], h, _ => simp at h; omega
  | [_, _, _], h, _ => simp at h; omega
  | [_, _, _, _], h, _ => simp at h; omega
  | [_, _, _, _, _], h, _ => simp at h; omega
theorem aucOf_each {L : List Int} {n : Nat} (h : L.length = 6 + 2 * n) (h5 : L.getD 5 0 = (n : Int)) (hb : ∀ x ∈ L, 0 ≤ x ∧ x ≤ 9007199254740992) : ∀ p ∈ (aucOf L).l, 0 ≤ p.1 ∧ p.1 ≤ 9007199254740992 ∧ 0 ≤ p.2 ∧ p.2 ≤ 9007199254740992 := fun p hp => by
  have hl := (aucOf_laid h h5).1
  have hm : ∀ x ∈ [p.1, p.2], x ∈ L := fun x hx => by
    rw [← hl]
    unfold Auc.laid
    exact List.mem_append_right _ (List.mem_flatMap.2 ⟨p, hp, hx⟩)
  have h1 := hb p.1 (hm _ (by simp))
  have h2 := hb p.2 (hm _ (by simp))
  exact ⟨h1.1, h1.2, h2.1, h2.2⟩
/-- Bytes that are an auction's. -/
def Taken (s : ByteArray) : Prop := ∃ a : Auc, a.Right ∧ s = a.bytes
theorem taken_of {s : ByteArray} {L : List Int} {n : Nat} (hs : byt s = bytN L) (h : L.length = 6 + 2 * n) (h5 : L.getD 5 0 = (n : Int)) (hr : (aucOf L).Right) : Taken s := by
  refine ⟨aucOf L, hr, byt_inj ?_⟩
  show _ = byt (catN (aucOf L).laid)
  rw [byt_catN, (aucOf_laid h h5).1, hs]
end Go.Proofs.Ytccmafmeblojpaa
