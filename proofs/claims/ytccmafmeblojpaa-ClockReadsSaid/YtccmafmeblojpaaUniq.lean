/- Laid numbers are read in one way alone. -/
import Derived.Test.YtccmafmeblojpaaOfBad
namespace Go.Proofs.Ytccmafmeblojpaa
theorem rd_cons {n : Int} (h : 0 ≤ n ∧ n ≤ 9007199254740992) (rest : List Nat) : rdGo (num n.toNat ++ rest) 0 0 = .ok n.toNat (num n.toNat).length := by
  have := rdGo_num n.toNat 0 0 rest (by omega) (.inr rfl) (by omega)
  rw [this]
  congr 1
  · omega
  · omega
theorem bytN_cons (n : Int) (L : List Int) : bytN (n :: L) = num n.toNat ++ bytN L := rfl
theorem bytN_prefix : ∀ (L M : List Int) (rest : List Nat), (∀ x ∈ L, 0 ≤ x ∧ x ≤ 9007199254740992) → (∀ x ∈ M, 0 ≤ x ∧ x ≤ 9007199254740992) → bytN M = bytN L ++ rest → ∃ M', M = L ++ M' ∧ rest = bytN M'
  | [], M, rest, _, _, h => ⟨M, rfl, by rw [h]; rfl⟩
  | n :: L, [], rest, _, _, h => by
    have h1 := num_pos n.toNat
    have h2 := congrArg List.length h
    rw [bytN_cons] at h2
    simp [bytN] at h2
    omega
  | n :: L, m :: M, rest, hl, hm, h => by
    rw [bytN_cons, bytN_cons, List.append_assoc] at h
    have h1 := rd_cons (hl n (List.mem_cons_self ..)) (bytN L ++ rest)
    have h2 := rd_cons (hm m (List.mem_cons_self ..)) (bytN M)
    rw [h, h1] at h2
    injection h2 with e1 e2
    have hn := hl n (List.mem_cons_self ..)
    have hm' := hm m (List.mem_cons_self ..)
    have e : n = m := by omega
    subst e
    have h3 := List.append_cancel_left h
    obtain ⟨M', e3, e4⟩ := bytN_prefix L M rest (fun x hx => hl x (List.mem_cons_of_mem _ hx)) (fun x hx => hm x (List.mem_cons_of_mem _ hx)) h3
    exact ⟨M', by rw [e3]; rfl, e4⟩
theorem pairsOf_back : ∀ l : List (Int × Int), pairsOf (l.flatMap fun p => [p.1, p.2]) = l
  | [] => rfl
  | p :: l => by
    rw [List.flatMap_cons]
    show (p.1, p.2) :: pairsOf (l.flatMap fun p => [p.1, p.2]) = _
    rw [pairsOf_back l]
theorem aucOf_back (a : Auc) : aucOf a.laid = a := by
  unfold aucOf
  have h : (a.laid).drop 6 = a.l.flatMap fun p => [p.1, p.2] := rfl
  rw [h, pairsOf_back]
  rfl
/-- What stands of bytes that are an auction's, wherever the reading is. -/
theorem taken_rest {s : ByteArray} (hT : Taken s) {L : List Int} {p : Nat} (h : byt s = bytN L ++ (byt s).drop p) (hx : ∀ x ∈ L, 0 ≤ x ∧ x ≤ 9007199254740992) : ∃ (a : Auc) (M : List Int), a.Right ∧ a.laid = L ++ M ∧ (byt s).drop p = bytN M := by
  obtain ⟨a, hr, rfl⟩ := hT
  have hb : byt a.bytes = bytN a.laid := byt_catN a.laid
  rw [hb] at h ⊢
  obtain ⟨M, e1, e2⟩ := bytN_prefix L a.laid _ hx (laid_bound hr.ok) h
  exact ⟨a, M, hr, e1, e2⟩
theorem taken_err {s : ByteArray} {L : List Int} {p e : Nat} (h : byt s = bytN L ++ (byt s).drop p) (hx : ∀ x ∈ L, 0 ≤ x ∧ x ≤ 9007199254740992) (hp : p < s.size) (hr : rdGo ((byt s).drop p) 0 0 = .err e) : ¬ Taken s := fun hT => by
  obtain ⟨a, M, h1, h2, h3⟩ := taken_rest hT h hx
  rw [h3] at hr
  cases M with
  | nil =>
    have h4 := congrArg List.length h3
    rw [List.length_drop, byt_length] at h4
    simp [bytN] at h4
    omega
  | cons m M =>
    have hm := laid_bound h1.ok m (by rw [h2]; simp)
    rw [bytN_cons, rd_cons hm] at hr
    simp at hr
theorem taken_many {s : ByteArray} {L : List Int} {p : Nat} (h : byt s = bytN L ++ (byt s).drop p) (hx : ∀ x ∈ L, 0 ≤ x ∧ x ≤ 9007199254740992) (hp : p < s.size) (hl : 38 ≤ L.length) : ¬ Taken s := fun hT => by
  obtain ⟨a, M, h1, h2, h3⟩ := taken_rest hT h hx
  have h4 := congrArg List.length h2
  rw [laid_length, List.length_append] at h4
  have h5 := h1.ok.len.2
  have h6 : M = [] := List.eq_nil_of_length_eq_zero (by omega)
  rw [h6] at h3
  have h7 := congrArg List.length h3
  rw [List.length_drop, byt_length] at h7
  simp [bytN] at h7
  omega
theorem taken_all {s : ByteArray} {L : List Int} (h : byt s = bytN L) (hx : ∀ x ∈ L, 0 ≤ x ∧ x ≤ 9007199254740992) : Taken s ↔ ∃ n : Nat, L.length = 6 + 2 * n ∧ L.getD 5 0 = (n : Int) ∧ (aucOf L).Right := by
  constructor
  · intro hT
    obtain ⟨a, M, h1, h2, h3⟩ := taken_rest (L := L) (p := s.size) hT (by rw [byt_drop_end s (Nat.le_refl _), List.append_nil]; exact h) hx
    rw [byt_drop_end s (Nat.le_refl _)] at h3
    have h4 : M = [] := by
      cases M with
      | nil => rfl
      | cons m M =>
        have h5 := congrArg List.length h3
        have h6 := num_pos m.toNat
        rw [bytN_cons, List.length_append] at h5
        simp at h5
        omega
    rw [h4, List.append_nil] at h2
    refine ⟨a.l.length, by rw [← h2]; exact laid_length a, by rw [← h2]; rfl, ?_⟩
    rw [← h2, aucOf_back]; exact h1
  · rintro ⟨n, h1, h2, h3⟩
    exact taken_of h h1 h2 h3
end Go.Proofs.Ytccmafmeblojpaa
