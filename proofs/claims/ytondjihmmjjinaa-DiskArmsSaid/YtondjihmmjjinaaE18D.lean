/- The engine, part 18d: an operation is run over the first objects alone. -/
import Derived.Test.YtondjihmmjjinaaE18C
namespace Go.Eng
open Go
set_option linter.unusedVariables false
set_option linter.unusedSimpArgs false

/-- The first m objects' state. -/
def HS.cut (X : HS) (m : Nat) : HS := ⟨X.ρ.take m, X.Ok, X.w⟩

theorem cut_blk {X : HS} {m n : Nat} (h : n < m) : blkOf (X.cut m) n = blkOf X n := by
  unfold blkOf HS.cut
  simp only
  rw [List.getElem?_take_of_lt h]

theorem nth_take {α : Type} {l : List α} {m n : Nat} {x : α} (h : nth (l.take m) n = some x) : n < m ∧ nth l n = some x := by
  rw [nth_eq, List.getElem?_take] at h
  split at h
  · rename_i hlt; exact ⟨hlt, by rw [nth_eq]; exact h⟩
  · cases h

theorem HRep.cut {B : Base} {X : HS} {G : List SO} (H : HRep B X G) {m : Nat} (hm : m ≤ G.length) (hn : ∀ n o, n < m → nth G n = some o → ∀ k ∈ o.names, k < m) : HRep (maskB (X.cut m) (G.take m)) (X.cut m) (G.take m) where
  len := by
    show (X.ρ.take m).length = _
    rw [List.length_take, List.length_take, H.len]
  obj := fun n o h => by
    obtain ⟨h1, h2⟩ := nth_take h
    refine RepO_at (X := X) (Y := X.cut m) rfl rfl (fun u hu => ?_) (fun k hk u hu _ => ?_) (H.obj n o h2)
    · show (X.ρ.take m)[n]? = some u
      rw [List.getElem?_take_of_lt h1]; exact hu
    · show (X.ρ.take m)[k]? = some u
      rw [List.getElem?_take_of_lt (hn n o h1 h2 k hk)]; exact hu
  inj := fun n k o o' h h' l l' b e e' => by
    obtain ⟨h1, h2⟩ := nth_take h
    obtain ⟨h3, h4⟩ := nth_take h'
    rw [cut_blk h1] at e
    rw [cut_blk h3] at e'
    exact H.inj n k o o' h2 h4 l l' b e e'
  sep := fun n o h l b e => by
    obtain ⟨h1, h2⟩ := nth_take h
    rw [cut_blk h1] at e
    exact H.sep n o h2 l b e
  okLt := H.okLt
  ownNew := fun n o b h l e => .inl ⟨n, o, h, l, e⟩
  okOld := fun b h => h
  okNew := fun b h => .inl h
  os := rfl
  tape := rfl
  out := rfl
  size := Nat.le_refl _
  fr := fun b _ _ => rfl

theorem HRep.uncut {B : Base} {X X1 : HS} {G G1 : List SO} {m : Nat} (H : HRep B X G) (hm : m ≤ G.length) (hx : Ext (X.cut m) X1) (H1 : HRep (maskB (X.cut m) (G.take m)) X1 G1) (h1 : m ≤ G1.length) (h2 : G1.length ≤ G.length)
    (hf : ∀ n, m ≤ n → n < G1.length → ∀ v, X.ρ[n]? = some v → v.oneC = false) :
    HRep B ⟨X1.ρ ++ X.ρ.drop G1.length, X1.Ok, X1.w⟩ (G1 ++ G.drop G1.length) ∧ ExtW X ⟨X1.ρ ++ X.ρ.drop G1.length, X1.Ok, X1.w⟩ ∧ Ext X1 ⟨X1.ρ ++ X.ρ.drop G1.length, X1.Ok, X1.w⟩ ∧
      (∀ X0, Ext X0 X → X0.ρ.length ≤ m → Ext X0 ⟨X1.ρ ++ X.ρ.drop G1.length, X1.Ok, X1.w⟩) := by
  have hlen1 := H1.len
  have hlen := H.len
  have hlow : ∀ n v, n < m → X.ρ[n]? = some v → X1.ρ[n]? = some v := fun n v hn hv => hx.ρ n v (by
    show (X.ρ.take m)[n]? = some v
    rw [List.getElem?_take_of_lt hn]; exact hv)
  have ρlo : ∀ n, n < G1.length → (X1.ρ ++ X.ρ.drop G1.length)[n]? = X1.ρ[n]? := fun n hn => List.getElem?_append_left (by omega)
  have ρhi : ∀ n, G1.length ≤ n → (X1.ρ ++ X.ρ.drop G1.length)[n]? = X.ρ[n]? := fun n hn => by
    rw [List.getElem?_append_right (by omega), List.getElem?_drop, hlen1]
    congr 1
    omega
  have glo : ∀ n, n < G1.length → nth (G1 ++ G.drop G1.length) n = nth G1 n := fun n hn => by rw [nth_eq, nth_eq]; exact List.getElem?_append_left hn
  have ghi : ∀ n, G1.length ≤ n → nth (G1 ++ G.drop G1.length) n = nth G n := fun n hn => by
    rw [nth_eq, nth_eq, List.getElem?_append_right hn, List.getElem?_drop]
    congr 1
    omega
  have hxw : ExtW X ⟨X1.ρ ++ X.ρ.drop G1.length, X1.Ok, X1.w⟩ := by
    refine ⟨fun n v hv ho => ?_, fun b hb => hx.ok b hb, fun b hb => hx.st b hb⟩
    show (X1.ρ ++ X.ρ.drop G1.length)[n]? = some v
    by_cases c : n < G1.length
    · rw [ρlo n c]
      by_cases c2 : n < m
      · exact hlow n v c2 hv
      · have := hf n (by omega) c v hv
        rw [ho] at this; cases this
    · rw [ρhi n (by omega)]; exact hv
  have hx1 : Ext X1 ⟨X1.ρ ++ X.ρ.drop G1.length, X1.Ok, X1.w⟩ := ⟨fun n v hv => by
    show (X1.ρ ++ X.ρ.drop G1.length)[n]? = some v
    rw [List.getElem?_append_left (List.getElem?_eq_some_iff.1 hv).1]; exact hv, fun b hb => hb, fun b hb => rfl⟩
  -- a block of an object behind the first ones
  have back : ∀ n o, G1.length ≤ n → nth G n = some o → o.live = true → ∀ b, blkOf X n = some b → ¬ (maskB (X.cut m) (G.take m)).own b ∧ b < X.w.heap.size ∧ ¬ X.Ok b := by
    intro n o hn hg hl b hb
    refine ⟨fun ⟨k, o', k1, k2, k3⟩ => ?_, H.lt hg hl hb, H.sep n o hg hl b hb⟩
    obtain ⟨q1, q2⟩ := nth_take k1
    rw [cut_blk q1] at k3
    have := H.inj n k o o' hg q2 hl k2 b hb k3
    omega
  have bhi : ∀ n, G1.length ≤ n → blkOf ⟨X1.ρ ++ X.ρ.drop G1.length, X1.Ok, X1.w⟩ n = blkOf X n := fun n hn => by
    unfold blkOf
    simp only
    rw [ρhi n hn]
  have blo : ∀ n, n < G1.length → blkOf ⟨X1.ρ ++ X.ρ.drop G1.length, X1.Ok, X1.w⟩ n = blkOf X1 n := fun n hn => by
    unfold blkOf
    simp only
    rw [ρlo n hn]
  have own1 : ∀ n o b, nth G1 n = some o → o.live = true → blkOf X1 n = some b → B.own b ∨ B.w.heap.size ≤ b := by
    intro n o b hn hl hb
    rcases H1.ownNew n o b hn hl hb with ⟨k, o', k1, k2, k3⟩ | q
    · obtain ⟨q1, q2⟩ := nth_take k1
      rw [cut_blk q1] at k3
      exact H.ownNew k o' b q2 k2 k3
    · exact .inr (Nat.le_trans H.size q)
  have apart : ∀ n k o o', n < G1.length → nth G1 n = some o → o.live = true → G1.length ≤ k → nth G k = some o' → o'.live = true → ∀ b, blkOf X1 n = some b → blkOf X k = some b → False := by
    intro n k o o' _ hn l hk hg l' b e1 e2
    obtain ⟨k1, k2, _⟩ := back k o' hk hg l' b e2
    rcases H1.ownNew n o b hn l e1 with q | q
    · exact k1 q
    · exact absurd q (Nat.not_le.2 k2)
  refine ⟨?_, hxw, hx1, fun X0 h0 hl0 => ⟨fun n v hv => ?_, fun b hb => hx.ok b (h0.ok b hb), fun b hb => (hx.st b (h0.ok b hb)).trans (h0.st b hb)⟩⟩
  · exact {
      len := by
        show (X1.ρ ++ X.ρ.drop G1.length).length = _
        rw [List.length_append, List.length_append, List.length_drop, List.length_drop, hlen1, hlen]
      obj := fun n o h => by
        by_cases c : n < G1.length
        · rw [glo n c] at h
          exact RepO_mono hx1 (fun b _ _ => rfl) (H1.obj n o h)
        · have c : G1.length ≤ n := by omega
          rw [ghi n c] at h
          have r1 : RepO ⟨X1.ρ ++ X.ρ.drop G1.length, X.Ok, X.w⟩ n o := by
            refine RepO_at (X := X) rfl rfl (fun u hu => ?_) (fun k hk u hu ho => hxw.ρ k u hu ho) (H.obj n o h)
            show (X1.ρ ++ X.ρ.drop G1.length)[n]? = some u
            rw [ρhi n c]; exact hu
          refine RepO_mono (X := ⟨X1.ρ ++ X.ρ.drop G1.length, X.Ok, X.w⟩) (Y := ⟨X1.ρ ++ X.ρ.drop G1.length, X1.Ok, X1.w⟩) ⟨fun _ _ e => e, fun b hb => hx.ok b hb, fun b hb => hx.st b hb⟩ (fun b hl hb => ?_) r1
          have hb' : blkOf X n = some b := by rw [← bhi n c]; exact hb
          obtain ⟨k1, k2, _⟩ := back n o c h hl b hb'
          exact H1.fr b k2 k1
      inj := fun n k o o' h h' l l' b e e' => by
        by_cases c : n < G1.length
        · rw [glo n c] at h
          rw [blo n c] at e
          by_cases c' : k < G1.length
          · rw [glo k c'] at h'
            rw [blo k c'] at e'
            exact H1.inj n k o o' h h' l l' b e e'
          · rw [ghi k (by omega)] at h'
            rw [bhi k (by omega)] at e'
            exact (apart n k o o' c h l (by omega) h' l' b e e').elim
        · rw [ghi n (by omega)] at h
          rw [bhi n (by omega)] at e
          by_cases c' : k < G1.length
          · rw [glo k c'] at h'
            rw [blo k c'] at e'
            exact (apart k n o' o c' h' l' (by omega) h l b e' e).elim
          · rw [ghi k (by omega)] at h'
            rw [bhi k (by omega)] at e'
            exact H.inj n k o o' h h' l l' b e e'
      sep := fun n o h l b e hok => by
        by_cases c : n < G1.length
        · rw [glo n c] at h
          rw [blo n c] at e
          exact H1.sep n o h l b e hok
        · rw [ghi n (by omega)] at h
          rw [bhi n (by omega)] at e
          obtain ⟨k1, k2, k3⟩ := back n o (by omega) h l b e
          rcases H1.okNew b hok with q' | q' | q'
          · exact k3 q'
          · exact absurd q' (Nat.not_le.2 k2)
          · exact k1 q'
      okLt := H1.okLt
      ownNew := fun n o b h l e => by
        by_cases c : n < G1.length
        · rw [glo n c] at h
          rw [blo n c] at e
          exact own1 n o b h l e
        · rw [ghi n (by omega)] at h
          rw [bhi n (by omega)] at e
          exact H.ownNew n o b h l e
      okOld := fun b h => hx.ok b (H.okOld b h)
      okNew := fun b h => by
        rcases H1.okNew b h with q | q | ⟨k, o', k1, k2, k3⟩
        · exact H.okNew b q
        · exact .inr (.inl (Nat.le_trans H.size q))
        · obtain ⟨q1, q2⟩ := nth_take k1
          rw [cut_blk q1] at k3
          rcases H.ownNew k o' b q2 k2 k3 with q | q
          · exact .inr (.inr q)
          · exact .inr (.inl q)
      os := H1.os.trans H.os
      tape := H1.tape.trans H.tape
      out := H1.out.trans H.out
      size := Nat.le_trans H.size H1.size
      fr := fun b hb ho => by
        refine Eq.trans (H1.fr b (Nat.lt_of_lt_of_le hb H.size) ?_) (H.fr b hb ho)
        rintro ⟨k, o', k1, k2, k3⟩
        obtain ⟨q1, q2⟩ := nth_take k1
        rw [cut_blk q1] at k3
        rcases H.ownNew k o' b q2 k2 k3 with q | q
        · exact ho q
        · exact absurd q (Nat.not_le.2 hb) }
  · have hn : n < m := Nat.lt_of_lt_of_le (List.getElem?_eq_some_iff.1 hv).1 hl0
    show (X1.ρ ++ X.ρ.drop G1.length)[n]? = some v
    rw [ρlo n (by omega)]
    exact hlow n v hn (h0.ρ n v hv)

end Go.Eng
