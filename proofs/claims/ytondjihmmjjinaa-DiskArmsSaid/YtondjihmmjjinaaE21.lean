/- The engine, part 21: a region, drawn or not. -/
import Derived.Test.YtondjihmmjjinaaE2B
namespace Go.Eng
open Go
set_option linter.unusedVariables false
set_option linter.unusedSimpArgs false

/-- What a state's table of slots says of the frame. -/
def RegsC (X : HS) (a : Act) (regs : List (Nat × SV)) : Prop := ∀ t v, lk regs t = some v → Rep X v .val [a.tmps.getD t undef]

structure StOk (B : Base) (N : Nat) (X : HS) (s : St) (a : Act) : Prop where
  regs : RegsC X a s.regs
  heap : HRep B X s.heap
  size : a.tmps.size = N
  defers : a.defers = []

theorem look_nil {base : List (Nat × SV)} (t : Nat) : look [] base t = match lk base t with
    | some v => some (none, v)
    | none => none := rfl

theorem RegsC.ok {X : HS} {a : Act} {regs : List (Nat × SV)} (h : RegsC X a regs) : RegsOk X a (look [] regs) := by
  intro t g v hl
  rw [look_nil] at hl
  split at hl
  · rename_i u hu
    simp only [Option.some.injEq, Prod.mk.injEq] at hl
    obtain ⟨rfl, rfl⟩ := hl
    exact h t u hu
  · cases hl

theorem RegsC.after {X : HS} {a : Act} {rs : List Rc} {base : List (Nat × SV)} (hP : PW rs) (h : RegsOk X a (look rs base)) : RegsC X a (after rs base) := by
  intro t v hl
  exact h t none v (after_look hP hl)

theorem dsts_mem : ∀ {ops : List Oper} {i : Nat} {o : Oper} {d : Nat}, ops[i]? = some o → o.dst = some d → d ∈ dsts ops
  | [], i, o, d, h, _ => by simp at h
  | o0 :: l, 0, o, d, h, hd => by
    simp only [List.getElem?_cons_zero, Option.some.injEq] at h
    subst h
    simp [dsts, hd]
  | o0 :: l, i + 1, o, d, h, hd => by
    have := dsts_mem (ops := l) (i := i) (by simpa using h) hd
    simp only [dsts]
    cases o0.dst <;> simp [this]

theorem dsts_uniq : ∀ {ops : List Oper}, nodupB (dsts ops) = true → ∀ {i j : Nat} {oi oj : Oper} {d : Nat}, ops[i]? = some oi → ops[j]? = some oj → oi.dst = some d → oj.dst = some d → i = j
  | [], _, i, j, oi, oj, d, hi, _, _, _ => by simp at hi
  | o0 :: l, hn, i, j, oi, oj, d, hi, hj, di, dj => by
    have key : ∀ {k : Nat} {ok : Oper}, l[k]? = some ok → ok.dst = some d → o0.dst = some d → False := by
      intro k ok hk dk d0
      simp only [dsts, d0] at hn
      exact (nodupB_cons hn).1 (dsts_mem hk dk)
    have tl : nodupB (dsts l) = true := by
      simp only [dsts] at hn
      cases hd : o0.dst with
      | none => rw [hd] at hn; exact hn
      | some d0 => rw [hd] at hn; exact (nodupB_cons hn).2
    cases i with
    | zero =>
      simp only [List.getElem?_cons_zero, Option.some.injEq] at hi
      subst hi
      cases j with
      | zero => rfl
      | succ j => exact (key (by simpa using hj) dj di).elim
    | succ i =>
      cases j with
      | zero =>
        simp only [List.getElem?_cons_zero, Option.some.injEq] at hj
        subst hj
        exact (key (by simpa using hi) di dj).elim
      | succ j =>
        have hi : l[i]? = some oi := by simpa using hi
        have hj : l[j]? = some oj := by simpa using hj
        have := dsts_uniq tl hi hj di dj
        omega

theorem pw_of_uniq {recs : List Rc} (hu : Uniq recs) : PW recs.reverse := by
  unfold PW
  refine List.pairwise_reverse.2 (List.pairwise_iff_getElem.2 ?_)
  intro i j hi hj hlt d h1 h2
  have := hu i j recs[i] recs[j] d (by simp [hi]) (by simp [hj]) h2 h1
  omega

theorem inB_lt {m : Nat} {l : List Nat} (h : inB m l = true) : ∀ n ∈ l, n < m := fun n hn => by
  have := List.all_eq_true.1 h n hn
  simpa [Nat.blt_eq] using this

theorem heapOk_lt {h : List SO} (hh : heapOk h = true) : ∀ n o, nth h n = some o → ∀ k ∈ o.names, k < h.length := fun n o hn k hk => by
  rw [nth_eq] at hn
  exact inB_lt (List.all_eq_true.1 hh o (List.mem_of_getElem? hn)) k hk

theorem scope_at : ∀ (recs : List Rc) (h0 : List SO), scopeOk h0.length recs = true → (∀ (i : Nat) (rc : Rc), recs[i]? = some rc → (heapAt h0 recs i).length ≤ rc.h.length) ∧ (∀ (i : Nat) (rc : Rc), recs[i]? = some rc → ∀ n ∈ rc.v.names, n < rc.h.length) ∧
    (∀ (i : Nat) (rc : Rc), recs[i]? = some rc → ∀ n o, nth rc.h n = some o → ∀ k ∈ o.names, k < rc.h.length)
  | [], h0, _ => ⟨fun i rc h => by simp at h, fun i rc h => by simp at h, fun i rc h => by simp at h⟩
  | r :: l, h0, h => by
    simp only [scopeOk, Bool.and_eq_true] at h
    obtain ⟨⟨⟨a, b⟩, c⟩, d⟩ := h
    obtain ⟨q1, q2, q3⟩ := scope_at l r.h d
    refine ⟨fun i rc hi => ?_, fun i rc hi => ?_, fun i rc hi => ?_⟩
    · cases i with
      | zero =>
        simp only [List.getElem?_cons_zero, Option.some.injEq] at hi
        subst hi
        exact Nat.le_of_ble_eq_true a
      | succ i => exact q1 i rc (by simpa using hi)
    · cases i with
      | zero =>
        simp only [List.getElem?_cons_zero, Option.some.injEq] at hi
        subst hi
        exact inB_lt b
      | succ i => exact q2 i rc (by simpa using hi)
    · cases i with
      | zero =>
        simp only [List.getElem?_cons_zero, Option.some.injEq] at hi
        subst hi
        exact heapOk_lt c
      | succ i => exact q3 i rc (by simpa using hi)

theorem regionK_sound {E : Env} (hE : EnvOk E) (hm : E.P.follows .mixedOrders = true) {R : Type} {B : Base} {N : Nat} {X : HS} {ops : Array Oper} {id : Nat} {draw : Bool} {s : St} {k : St → Option R} {r : R} {a : Act} {Q : Exit → Act → World → Prop}
    (hs : StOk B N X s a) (hk : regionK E N ops.toList draw s k = some r)
    (hq : ∀ s' a' X', StOk B N X' s' a' → Ext X X' → k s' = some r → Q .normal a' X'.w) : (Code.region id ops draw).wp E.P Q a X.w := by
  unfold regionK at hk
  obtain ⟨hd, hk⟩ := bif_some hk
  simp only [dstsOk, Bool.and_eq_true, List.all_eq_true] at hd
  obtain ⟨hlt, hnd⟩ := hd
  have hlt' : ∀ d ∈ dsts ops.toList, d < N := fun d hd => by have := hlt d hd; simpa [Nat.blt_eq] using this
  cases draw with
  | false =>
    apply wp_region_list
    have := runOps_sound hE (ops := ops.toList) (B := B) (Q := Q) ops.toList [] s.heap a X hs.regs.ok hs.heap (by intro t g v h; simp [lkR] at h) List.Pairwise.nil
      ⟨fun d hd => ⟨by rw [hs.size]; exact hlt' d hd, rfl⟩, hnd⟩ hs.defers hk (by
        intro rs' h' a' X' hP hR H hsz hdf hx hk'
        obtain ⟨_, hk'⟩ := bif_some hk'
        exact hq _ a' X' ⟨RegsC.after hP hR, H, hsz.trans hs.size, hdf⟩ hx hk')
    simpa using this
  | true =>
    refine wp_region_any hm ?_
    obtain ⟨recs, h1, h2, h3⟩ := runOps_lex hE ops.toList [] s.heap hk
    obtain ⟨ho, hk'⟩ := bif_some h3
    simp only [Bool.not_true, Bool.false_or, List.append_nil, List.map_reverse, List.reverse_reverse] at ho hk'
    simp only [Bool.and_eq_true] at ho
    obtain ⟨ho, hb, hsc⟩ := ho
    simp only [baseOk, Bool.and_eq_true, List.all_eq_true] at hb
    have hdst : ∀ (i : Nat) (rc : Rc), recs[i]? = some rc → ∃ o, ops.toList[i]? = some o ∧ rc.dst = o.dst := by
      intro i rc hr
      have hi : i < ops.toList.length := by rw [← h1]; exact (List.getElem?_eq_some_iff.1 hr).1
      exact ⟨_, List.getElem?_eq_getElem hi, (h2 i _ rc (List.getElem?_eq_getElem hi) hr).1⟩
    have hu : Uniq recs := by
      intro i j ri rj d hi hj di dj
      obtain ⟨oi, k1, k2⟩ := hdst i ri hi
      obtain ⟨oj, k3, k4⟩ := hdst j rj hj
      exact dsts_uniq hnd k1 k3 (by rw [← k2]; exact di) (by rw [← k4]; exact dj)
    unfold orderOk at ho
    simp only [Bool.and_eq_true, List.all_eq_true, List.mem_range] at ho
    obtain ⟨⟨hed, hpr⟩, _⟩ := ho
    have L : Lex E ops.toList s.regs recs s.heap := by
      refine ⟨hE, h1, ?_, hu, hed, ?_, fun e he n hn => inB_lt (hb.2 e he) n hn, heapOk_lt hb.1, (scope_at recs s.heap hsc).1, (scope_at recs s.heap hsc).2.1, (scope_at recs s.heap hsc).2.2⟩
      · intro i o rc hio hir
        have := h2 i o rc hio hir
        simpa using this
      · intro i j oi oj hij hi hj
        have hjl : j < ops.toList.length := (List.getElem?_eq_some_iff.1 hj).1
        have := hpr j hjl i hij
        rw [nth_eq, nth_eq, hi, hj] at this
        exact this
    have hw : ∀ t, look recs.reverse s.regs t = loS (fun _ => true) recs s.regs t := by
      intro t
      have e1 := look_lex hu (base := s.regs) recs.length t
      rw [List.take_length] at e1
      rw [e1]
      exact congrFun (loS_all hu (fun k r hk => by simpa using (List.getElem?_eq_some_iff.1 hk).1)) t
    obtain ⟨H', hx⟩ := hs.heap.world (w' := { X.w with drawn := X.w.drawn + 1 }) rfl rfl rfl (Nat.le_refl _) (fun _ _ => rfl) (fun _ _ _ _ _ _ => rfl) (fun _ _ _ => rfl)
    obtain ⟨X2, G2, c2, p1, p2, p3, p4⟩ := L.opens (S := fun k => (Array.replicate ops.size false).getD k false) (X1 := ⟨X.ρ, X.Ok, { X.w with drawn := X.w.drawn + 1 }⟩) (B := B) H'
      (fun k => by simp [Array.getElem?_replicate]; split <;> rfl)
    have hx2 : Ext X X2 := hx.trans p2
    have := any_sound L (B := B) (N := N) (X0 := X) (fun i o d ho hd => hlt' d (dsts_mem ho hd)) (Q := Q) hs.heap.len (by
        intro a' X' hX hR H hsz hdf
        refine hq _ a' X' ⟨RegsC.after (pw_of_uniq hu) ?_, H, hsz, hdf⟩ hX hk'
        intro t g v hl
        rw [hw] at hl
        exact hR t g v hl) ops.toList.length (Array.replicate ops.size false) a X2 G2 c2 hx2 (by simp)
        (by intro i o ho hi; simp [Array.getElem?_replicate] at hi; split at hi <;> simp at hi) (by
          intro t g v hl
          have e : loS (fun k => (Array.replicate ops.size false).getD k false) recs s.regs t = look [] s.regs t := by
            unfold loS
            rw [lkS_not (fun k r _ _ => by simp [Array.getElem?_replicate]; split <;> rfl)]
            rfl
          rw [e] at hl
          have h4 := hs.regs.ok t g v hl
          cases g with
          | none => exact Rep_mono hx2 _ _ _ h4
          | some g => exact ⟨fun e => Rep_mono hx2 _ _ _ (h4.1 e), h4.2⟩) p1 p4 hs.size hs.defers (by
          rw [List.countP_eq_length.2]
          · simp
          · intro k _; simp [Array.getElem?_replicate]; split <;> rfl)
    rw [p3] at this
    simpa using this

end Go.Eng
