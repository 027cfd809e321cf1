/- What ClockPlays holds of its two auctions, round by round. -/
import Derived.Test.YtccmafmeblojpaaStep
namespace Go.Proofs.Ytccmafmeblojpaa
open Go.RowKit
set_option linter.unusedVariables false
def abox (a : Auc) (A : Option Addr) (n c : Nat) : Array Value := #[.int .i64 a.supply, .int .i64 a.start, .int .i64 a.step, .int .i64 a.state, .slice A n c]
structure Both (w0 w : World) (g gl gb : Nat) (A : Option Addr) (XS : List (Option Addr × Nat)) (a : Auc) (n c : Nat) : Prop where
  at_ : AtA w g gl a
  rows : ∃ R : Nat → Prop, (∀ b, R b → b < w.heap.size ∧ b ≠ gb ∧ b ≠ g ∧ b ≠ gl) ∧ ∀ W' : World, w.heap.size ≤ W'.heap.size → (∀ b, R b → W'.heap[b]? = w.heap[b]?) → RA A XS a W'
  head : w0.heap.size ≤ g
  list : w0.heap.size ≤ gl
  new : w0.heap.size ≤ gb
  apart : gb ≠ g ∧ gb ≠ gl
  all : Below w0.heap.size w0 w
  box : Blk w gb 56 (abox a A n c)
  side : Beside a n
  len : XS.length = n
  cap : n ≤ c
section
variable {w0 w w' : World} {g gl gb : Nat} {A : Option Addr} {XS : List (Option Addr × Nat)} {a : Auc} {n c : Nat}
theorem Both.ra (h : Both w0 w g gl gb A XS a n c) : RA A XS a w := by
  obtain ⟨R, _, h2⟩ := h.rows
  exact h2 w (Nat.le_refl _) fun _ _ => rfl
theorem Both.below (h : Both w0 w g gl gb A XS a n c) (hb : Below w.heap.size w w') : Both w0 w' g gl gb A XS a n c := by
  obtain ⟨R, h1, h2⟩ := h.rows
  exact ⟨h.at_.below hb, ⟨R, fun b hR => ⟨Nat.lt_of_lt_of_le (h1 b hR).1 hb.size, (h1 b hR).2⟩, fun W' hs hW => h2 W' (Nat.le_trans hb.size hs) fun b hR => (hW b hR).trans (hb.block b (h1 b hR).1)⟩, h.head, h.list, h.new, h.apart, below_next h.all hb, h.box.below hb h.box.lt, h.side, h.len, h.cap⟩
theorem Beside.act {a : Auc} {n n' : Nat} (h : Beside a n) (k who x : Int) (hn : (n' : Int) = (a.act k who x).round) (hf : n ≤ 150) : Beside (a.act k who x) n' ∧ n' ≤ n + 1 := by
  have h1 : (a.act k who x).Ok ∧ (a.act k who x).Fair ∧ ((a.act k who x).round = a.round ∨ (a.act k who x).round = a.round + 1) := by
    unfold Auc.act
    split
    · exact ⟨h.ok.next, h.fair.next h.ok, a.next_round⟩
    · exact ⟨h.ok.bid who x, h.fair.bid who x, .inl (a.bid_round who x)⟩
  have h2 := h.round
  have h3 := h.pos
  have h4 := h1.2.2
  exact ⟨⟨h1.1, h1.2.1, hn.symm, by omega, by omega⟩, by omega⟩
/-- The box written anew, once step has answered: block gt alone has turned since, and new ones. -/
theorem Both.turn {wt w5 wc : World} {gt n' c' : Nat} {A' : Option Addr} {XS' : List (Option Addr × Nat)} {r : Auc} (h : Both w0 w g gl gb A XS a n c)
    (hs : Beside r n') (hl : XS'.length = n') (hc : n' ≤ c') (ht : Below w.heap.size w wt) (h5 : AtA w5 g gl r) (ho : Only (feet2 g gl) wt w5) (hla : Lasts wt w5 (RA A XS a) (RA A' XS' r))
    (hgt : w.heap.size ≤ gt) (hgt2 : gt < wt.heap.size ∨ w5.heap.size ≤ gt) (hF : Only (fun b => b = gt) w5 wc) :
    Both w0 (((((wc.setCell ⟨gb, 0, none⟩ (.int .i64 r.supply)).setCell ⟨gb, 1, none⟩ (.int .i64 r.start)).setCell ⟨gb, 2, none⟩ (.int .i64 r.step)).setCell ⟨gb, 3, none⟩ (.int .i64 r.state)).setCell ⟨gb, 4, none⟩ (.slice A' n' c')) g gl gb A' XS' r n' c' := by
  have hO : Only (fun b => b = gb) wc _ := only_five (g := gb) (Only.refl (fun b => b = gb) wc) rfl (.int .i64 r.supply) (.int .i64 r.start) (.int .i64 r.step) (.int .i64 r.state) (.slice A' n' c')
  have hgbl := h.box.lt
  have hgl := h.at_.head.lt
  have hgll := h.at_.list.lt
  obtain ⟨hap1, hap2⟩ := h.apart
  have hBt : Blk wt gb 56 (abox a A n c) := h.box.below ht hgbl
  have hB5 : Blk w5 gb 56 (abox a A n c) := hBt.only ho fun hh => by rcases hh with hh | hh; exact hap1 hh; exact hap2 hh
  have hBc : Blk wc gb 56 (abox a A n c) := hB5.only hF (by show ¬ gb = gt; omega)
  have hAc : AtA wc g gl r := h5.only hF (by show ¬ g = gt; omega) (by show ¬ gl = gt; omega)
  obtain ⟨R, h1, h2⟩ := h.rows
  have hts := ht.size
  have h5s := ho.size
  have hcs := hF.size
  refine ⟨hAc.only hO (fun e => hap1 e.symm) (fun e => hap2 e.symm), ⟨fun b => R b ∨ (wt.heap.size ≤ b ∧ b < w5.heap.size), fun b hb => ?_, fun W' hs' hW' => ?_⟩, h.head, h.list, h.new, h.apart, ?_, ?_, hs, hl, hc⟩
  · have hle := hO.size
    rcases hb with hb | ⟨hb1, hb2⟩
    · obtain ⟨q1, q2⟩ := h1 b hb
      exact ⟨by omega, q2⟩
    · exact ⟨by omega, by omega, by omega, by omega⟩
  · have hle := hO.size
    have back : ∀ b, (R b ∨ (wt.heap.size ≤ b ∧ b < w5.heap.size)) → W'.heap[b]? = w5.heap[b]? := fun b hb => by
      have hb' : b < w5.heap.size ∧ b ≠ gb ∧ b ≠ gt := by
        rcases hb with hb | ⟨hb1, hb2⟩
        · obtain ⟨q1, q2, q3, q4⟩ := h1 b hb
          exact ⟨by omega, q2, by omega⟩
        · exact ⟨hb2, by omega, by omega⟩
      rw [hW' b hb, hO.block b (by omega) hb'.2.1, hF.block b hb'.1 hb'.2.2]
    refine hla W' (by omega) (fun b hb1 hb2 => back b (.inr ⟨hb1, hb2⟩)) (h2 W' (by omega) fun b hb => ?_)
    obtain ⟨q1, q2, q3, q4⟩ := h1 b hb
    rw [back b (.inl hb), ho.block b (by omega) (by rintro (hh | hh); exact q3 hh; exact q4 hh), ht.block b q1]
  · have b1 := below_next h.all ht
    have b2 := b1.trans (ho.below b1.size fun k hk => by rcases hk with rfl | rfl; exact h.head; exact h.list)
    have b3 := b2.trans (hF.below b2.size fun k hk => by have := h.all.size; rw [hk]; omega)
    exact b3.trans (hO.below b3.size fun k hk => by rw [hk]; exact h.new)
  · exact (((((hBc.set_ 0 _).set_ 1 _).set_ 2 _).set_ 3 _).set_ 4 _)
end
end Go.Proofs.Ytccmafmeblojpaa
