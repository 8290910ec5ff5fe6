/- The engine, part 17: on what an operation's step depends. -/
import Derived.Test.YtondjihmmjjinaaE16
namespace Go.Eng
open Go
set_option linter.unusedVariables false
set_option linter.unusedSimpArgs false

theorem evs_congr {ev ev' : Operand → Option SV} : ∀ (l : List Operand), (∀ x ∈ l, ev x = ev' x) → evs ev l = evs ev' l
  | [], _ => rfl
  | x :: l, h => by simp only [evs, h x (by simp), evs_congr l (fun y hy => h y (by simp [hy]))]

theorem inOrder_congr {ev ev' : Operand → Option SV} : ∀ (l : List (Nat × Operand)) (n : Nat), (∀ x ∈ l, ev x.2 = ev' x.2) → inOrder ev n l = inOrder ev' n l
  | [], _, _ => rfl
  | (i, x) :: l, n, h => by
    have h0 : ev x = ev' x := h (i, x) (by simp)
    simp only [inOrder, h0, inOrder_congr l (n + 1) (fun y hy => h y (by simp [hy]))]

theorem setParts_congr {ev ev' : Operand → Option SV} : ∀ (ps : List (Nat × Operand)) (l : SV), (∀ x ∈ ps, ev x.2 = ev' x.2) → setParts ev l ps = setParts ev' l ps
  | [], _, _ => rfl
  | (i, x) :: ps, l, h => by
    have h0 : ev x = ev' x := h (i, x) (by simp)
    simp only [setParts, h0]
    split
    · split
      · exact setParts_congr ps _ (fun y hy => h y (by simp [hy]))
      · rfl
    · rfl

theorem buildK_congr {R : Type} {P : Program} {t : TypeId} {ps : List (Nat × Operand)} {ev ev' : Operand → Option SV} {h : List SO} {K : Kont R} (he : ∀ x ∈ ps, ev x.2 = ev' x.2) : buildK P t ps ev h K = buildK P t ps ev' h K := by
  unfold buildK
  split
  · split
    · rw [setParts_congr ps _ he]
    · rfl
  · split
    · rw [setParts_congr ps _ he]
    · rfl
  · rfl

theorem buildSliceK_congr {R : Type} {P : Program} {t : TypeId} {un : Bool} {n : Nat} {ps : List (Nat × Operand)} {ev ev' : Operand → Option SV} {h : List SO} {K : Kont R} (he : ∀ x ∈ ps, ev x.2 = ev' x.2) :
    buildSliceK P t un n ps ev h K = buildSliceK P t un n ps ev' h K := by
  unfold buildSliceK
  rw [inOrder_congr ps 0 he]

theorem evO_congr {ev ev' : Operand → Option SV} {x : Option Operand} (h : ∀ y ∈ x.toArray, ev y = ev' y) : evO ev x = evO ev' x := by
  cases x with
  | none => rfl
  | some y => simp only [evO, h y (by simp)]

theorem opK0_congr {E : Env} {R : Type} {o : Op} {gc un : Bool} {ev ev' : Operand → Option SV} {evg evg' : Nat → Bool → Operand → Option SV} {h : List SO} {K : Kont R}
    (he : ∀ x ∈ o.operands, ev x = ev' x) (hg : ∀ c t x, x ∈ o.operands → evg c t x = evg' c t x) : opK0 E o gc un ev evg h K = opK0 E o gc un ev' evg' h K := by
  cases o <;> simp only [opK0] <;> simp only [Op.operands] at he hg
  case move x => rw [he x (by simp)]
  case assign x => rw [he x (by simp)]
  case pick c x y =>
    cases c <;> simp only [opK0]
    rw [he _ (by simp), hg _ _ x (by simp), hg _ _ y (by simp)]
  case box t x => rw [he x (by simp)]
  case build t ps => exact buildK_congr (fun x hx => he x.2 (by simp; exact ⟨x.1, by simpa using hx⟩))
  case buildSlice t n ps => exact buildSliceK_congr (fun x hx => he x.2 (by simp; exact ⟨x.1, by simpa using hx⟩))
  case load t x => rw [he x (by simp)]
  case store t x y => rw [he x (by simp), he y (by simp)]
  case nilCheck x => rw [he x (by simp)]
  case binOp op t x y t2 => rw [he x (by simp), he y (by simp)]
  case unOp op t x => rw [he x (by simp)]
  case convert s d x => rw [he x (by simp)]
  case makeFunc fn first caps =>
    cases fn <;> simp only [opK0]
    rw [evs_congr caps.toList (fun x hx => he x (by simp at hx ⊢; exact .inr hx))]
  case makeSlice t l c => rw [he l (by simp), he c (by simp)]
  case makeMap t res => cases res <;> rfl
  case lookup t x i co => rw [he x (by simp), he i (by simp)]
  case mapUpdate t m x y => rw [he m (by simp), he x (by simp), he y (by simp)]
  case mapEntry t m x => rw [he m (by simp), he x (by simp)]
  case entryStore t m x y => rw [he m (by simp), he x (by simp), he y (by simp)]
  case slice t x lo hi mx =>
    rw [he x (by simp), evO_congr (x := lo) (fun y hy => he y (by simp at hy ⊢; simp [hy])), evO_congr (x := hi) (fun y hy => he y (by simp at hy ⊢; simp [hy])), evO_congr (x := mx) (fun y hy => he y (by simp at hy ⊢; simp [hy]))]
  case fieldAddr t x f => rw [he x (by simp)]
  case field t x f => rw [he x (by simp)]
  case indexAddr t x i => rw [he x (by simp), he i (by simp)]
  case index t x i => rw [he x (by simp), he i (by simp)]
  case extract x i => rw [he x (by simp)]
  case call c =>
    obtain ⟨callee, args, tys⟩ := c
    simp only [Call.operands] at he
    rw [evs_congr args.toList (fun x hx => he x (by simp at hx ⊢; exact .inr hx))]
    cases callee with
    | value f => simp only; rw [he f (by simp)]
    | invoke _ _ => rfl
    | builtin b => rfl

/-! ### The heap -/

theorem arithK_ind {R : Type} {op : BinOp} {k : IntKind} {gc : Bool} {a b : Int} (h h2 : List SO) (K : Kont R) : arithK op k gc a b h K = arithK op k gc a b h2 fun v _ => K v h := by
  cases op <;> rfl

theorem strK_ind {R : Type} {op : BinOp} {gc : Bool} {a b : List UInt8} (h h2 : List SO) (K : Kont R) : strK op gc a b h K = strK op gc a b h2 fun v _ => K v h := by
  cases op <;> rfl

theorem binK_ind {R : Type} {P : Program} {op : BinOp} {t : TypeId} {gc : Bool} {x y : SV} (h h2 : List SO) (K : Kont R) : binK P op t gc x y h K = binK P op t gc x y h2 fun v _ => K v h := by
  unfold binK
  split
  · rw [arithK_ind h h2]
  · rw [strK_ind h h2]
  · rfl
  · rfl
  · rfl
  · rfl

theorem sliceAddrK_ind {R : Type} {P : Program} {t : TypeId} {gc : Bool} {x i : SV} (hx : ∀ n, x ≠ .own n) (h h2 : List SO) (K : Kont R) : sliceAddrK P t gc x i h K = sliceAddrK P t gc x i h2 fun v _ => K v h := by
  unfold sliceAddrK
  split
  · split
    · rfl
    · exact absurd rfl (hx _)
    · split <;> rfl
    · rfl
    · rfl
  · rfl

theorem indexAddrK_ind {R : Type} {P : Program} {t : TypeId} {gc : Bool} {x i : SV} (hx : ∀ n, x ≠ .own n) (h h2 : List SO) (K : Kont R) : indexAddrK P t gc x i h K = indexAddrK P t gc x i h2 fun v _ => K v h := by
  unfold indexAddrK
  split
  · rfl
  · exact sliceAddrK_ind hx h h2 K

theorem indexAddrK_nb {R : Type} {P : Program} {t : TypeId} {gc : Bool} {x i : SV} {h : List SO} {K : Kont R} (hx : ∀ n p o, x ≠ .box n p o) : indexAddrK P t gc x i h K = sliceAddrK P t gc x i h K := by
  unfold indexAddrK
  split
  · exact absurd rfl (hx _ _ _)
  · rfl

theorem lenK_ind {R : Type} {P : Program} {t : TypeId} {x : SV} (hx : ∀ n, x ≠ .own n) (h h2 : List SO) (K : Kont R) : lenK P t x h K = lenK P t x h2 fun v _ => K v h := by
  unfold lenK
  split <;> try rfl
  exact absurd rfl (hx _)

theorem bif23 {c : Bool} {n : Nat} (h : (bif c then 2 else 3) = n) (hn : n = 0 ∨ n = 1) : False := by cases c <;> simp at h <;> omega

/-- An operation that looks at registers alone. -/
theorem opK0_ind {E : Env} {R : Type} {o : Op} {gc un : Bool} {ev : Operand → Option SV} {evg : Nat → Bool → Operand → Option SV} (hc : clsK E o ev = 0) (h h2 : List SO) (K : Kont R) :
    opK0 E o gc un ev evg h K = opK0 E o gc un ev evg h2 fun v _ => K v h := by
  cases o <;> simp only [clsK] at hc <;> try (cases hc; done)
  case pick c x y => cases c <;> simp only [opK0]
  case makeFunc fn first caps => cases fn <;> simp only [opK0]
  case build t ps => simp only [opK0, buildK]
  case buildSlice t n ps =>
    cases hn0 : Nat.beq n 0 with
    | true =>
      simp only [opK0, buildSliceK, hn0, cond_true]
    | false =>
    rw [hn0] at hc
    simp only [cond_false] at hc
    split at hc
    · rename_i vs hvs
      cases hb : Nat.beq (ownsAll vs).length 0 <;> simp [hb] at hc
    · cases hc
  case load t x =>
    simp only [opK0]
    cases hx : ev x with
    | none => rfl
    | some p => cases p <;> simp only [hx] at hc <;> first | (cases hc; done) | rfl
  case binOp op t x y t2 =>
    simp only [opK0]
    split
    · exact binK_ind _ _ _
    · rfl
  case convert s d x =>
    simp only [opK0]
    cases hx : ev x with
    | none => rfl
    | some v =>
      rw [hx] at hc
      cases v <;> try (simp at hc; done)
      case dat g y =>
        cases g <;> try (simp at hc; done)
        all_goals
          simp only [convK, listV]
          repeat' (first | rfl | split)
        all_goals
          rename SV.dat _ _ = SV.dat GT.str _ => hq
          cases hq
  case slice t x lo hi mx =>
    cases hx : ev x with
    | none => simp only [opK0, hx]
    | some v =>
      simp only [opK0, hx]
      rw [hx] at hc
      simp only at hc
      cases hvw : vwB E x v with
      | true => rw [hvw] at hc; simp at hc
      | false =>
      rw [hvw] at hc
      simp only [cond_false] at hc ⊢
      cases v <;> try (simp [Nat.beq] at hc; done)
      case dat g y =>
        cases evO ev lo with
        | none => rfl
        | some lo => cases evO ev hi with
          | none => rfl
          | some hi => cases evO ev mx with
            | none => rfl
            | some mx => cases g <;> rfl
      all_goals
        cases evO ev lo with
        | none => rfl
        | some lo => cases evO ev hi with
          | none => rfl
          | some hi => cases evO ev mx with
            | none => rfl
            | some mx => rfl
  case indexAddr t x i =>
    simp only [opK0]
    cases hx : ev x with
    | none => rfl
    | some v =>
      simp only [hx] at hc
      have hno : ∀ n, v ≠ .own n := by
        intro n e
        subst e
        simp at hc
      cases ev i with
      | none => rfl
      | some w => exact indexAddrK_ind hno h h2 K
  case call c =>
    obtain ⟨callee, args, tys⟩ := c
    cases callee with
    | invoke _ _ => simp at hc
    | value f =>
      simp only at hc
      split at hc
      · rename_i f' caps _ _ _
        cases hp : E.isPm f' with
        | false => simp only [hp, cond_false] at hc; exact (bif23 hc (.inl rfl)).elim
        | true => simp [hp] at hc
      · cases hc
    | builtin b =>
      simp only [opK0]
      cases b <;> simp only at hc <;> try (cases hc; done)
      case append =>
        split at hc
        · exact (bif23 hc (.inl rfl)).elim
        · cases hc
      case len =>
        split at hc
        · rename_i x hx
          rw [hx]
          simp only [evs]
          cases hv : ev x with
          | none => rfl
          | some v =>
            simp only [hv] at hc
            have hno : ∀ n, v ≠ .own n := by
              intro n e
              subst e
              simp at hc
            simp only [builtinK]
            cases tys.toList with
            | nil => rfl
            | cons t l => cases l with
              | nil => exact lenK_ind hno h h2 K
              | cons _ _ => rfl
        · cases hc
      case min =>
        cases evs ev args.toList with
        | none => rfl
        | some vs => simp only [builtinK]; cases vs with
          | nil => rfl
          | cons a l => cases l with
            | nil => rfl
            | cons b l => cases l <;> rfl
      case max =>
        cases evs ev args.toList with
        | none => rfl
        | some vs => simp only [builtinK]; cases vs with
          | nil => rfl
          | cons a l => cases l with
            | nil => rfl
            | cons b l => cases l <;> rfl
  all_goals first | rfl | (simp only [opK0]; rfl)

theorem nth_app {α : Type} {h l : List α} {n : Nat} {o : α} (e : nth h n = some o) : nth (h ++ l) n = some o := by
  rw [nth_eq] at e ⊢
  rw [List.getElem?_append_left (List.getElem?_eq_some_iff.1 e).1]
  exact e

theorem listV_app {h l : List SO} {x : SV} {g : GT} {ys : List g.ty} (e : listV h x g = some ys) : listV (h ++ l) x g = some ys := by
  unfold listV at e
  split at e
  · exact e
  · exact e
  · exact e
  · split at e
    · rename_i g' xs hn
      simp only [listV, nth_app hn]
      exact e
    · cases e
  · split at e
    · rename_i g' xs hn
      simp only [listV, nth_app hn]
      exact e
    · cases e
  · cases e

theorem bif03 {c : Bool} (h : (bif c then 0 else 3) = (1 : Nat)) : False := by cases c <;> simp at h

theorem pinj {u v : SV} {k h' : List SO} (e : pair u k = some (v, h')) : u = v ∧ h' = k := by
  simp only [pair, Option.some.injEq, Prod.mk.injEq] at e
  exact ⟨e.1, e.2.symm⟩

theorem convK_one {P : Program} {s d : TypeId} {un : Bool} {p v : SV} {h h' : List SO} (hx : ∀ g y, p ≠ .dat g y) (hk : convK P s d un p h pair = some (v, h')) :
    h' = h ∧ ∀ l, convK P s d un p (h ++ l) pair = some (v, h ++ l) := by
  unfold convK at hk
  split at hk
  · exact absurd rfl (hx _ _)
  · exact absurd rfl (hx _ _)
  · exact absurd rfl (hx _ _)
  · rename_i e hs hd
    split at hk
    · rename_i hu
      split at hk
      · rename_i xs hxs
        obtain ⟨rfl, rfl⟩ := pinj hk
        refine ⟨rfl, fun l => ?_⟩
        simp only [convK, hs, hd, hu, listV_app (l := l) hxs]
        rfl
      · cases hk
    · cases hk
  · cases hk

/-- An operation that looks at objects. -/
theorem opK0_one {E : Env} (hE : EnvOk E) {o : Op} {gc un : Bool} {ev : Operand → Option SV} {evg : Nat → Bool → Operand → Option SV} {h h' : List SO} {v : SV} (hc : clsK E o ev = 1)
    (hk : opK0 E o gc un ev evg h pair = some (v, h')) : h' = h ∧ ∀ l, opK0 E o gc un ev evg (h ++ l) pair = some (v, h ++ l) := by
  cases o <;> simp only [clsK] at hc <;> try (cases hc; done)
  case buildSlice t n ps =>
    cases hn0 : Nat.beq n 0 with
    | true => simp [hn0] at hc
    | false =>
    rw [hn0] at hc
    simp only [cond_false] at hc
    split at hc
    · rename_i vs hvs
      cases hb : Nat.beq (ownsAll vs).length 0 <;> simp [hb] at hc
    · cases hc
  case load t x =>
    simp only [opK0] at hk ⊢
    split at hk
    · rename_i p hp
      simp only [hp] at hc ⊢
      unfold loadK at hk ⊢
      cases p <;> simp only at hk hc ⊢ <;> try (cases hk; done)
      case rd g y => cases hc
      case box n path off =>
        split at hk
        · rename_i u hn
          obtain ⟨c1, hk⟩ := bif_some hk
          split at hk
          · rename_i w hw
            obtain ⟨c2, hk⟩ := bif_some hk
            obtain ⟨rfl, rfl⟩ := pinj hk
            refine ⟨rfl, fun l => ?_⟩
            rw [nth_app hn]
            simp only [c1, cond_true, hw, c2]
            rfl
          · cases hk
        · cases hk
      case el n g i path off =>
        split at hk
        · rename_i g' xs hn
          split at hk
          · rename_i ys hy
            obtain ⟨z, hz, hk⟩ := Option.bind_eq_some_iff.1 hk
            obtain ⟨c1, hk⟩ := bif_some hk
            split at hk
            · rename_i w hw
              obtain ⟨c2, hk⟩ := bif_some hk
              obtain ⟨rfl, rfl⟩ := pinj hk
              refine ⟨rfl, fun l => ?_⟩
              rw [nth_app hn]
              simp only [hy, hz, Option.bind_some, c1, cond_true, hw, c2]
              rfl
            · cases hk
          · cases hk
        · rename_i g' xs jj uu hn
          obtain ⟨c0, hk⟩ := bif_some hk
          unfold asrt at hk
          obtain ⟨c1, hk⟩ := bif_some hk
          obtain ⟨c2, hk⟩ := bif_some hk
          split at hk
          · rename_i w hw
            obtain ⟨c3, hk⟩ := bif_some hk
            obtain ⟨rfl, rfl⟩ := pinj hk
            refine ⟨rfl, fun l => ?_⟩
            rw [nth_app hn]
            unfold asrt
            simp only [c0, c1, c2, c3, cond_true, hw]
            rfl
          · cases hk
        · rename_i g' xs jj uu hn
          split at hk
          · rename_i ys hy
            obtain ⟨z, hz, hk⟩ := Option.bind_eq_some_iff.1 hk
            obtain ⟨c1, hk⟩ := bif_some hk
            split at hk
            · rename_i w hw
              obtain ⟨c2, hk⟩ := bif_some hk
              obtain ⟨rfl, rfl⟩ := pinj hk
              refine ⟨rfl, fun l => ?_⟩
              rw [nth_app hn]
              simp only [hy, hz, Option.bind_some, c1, cond_true, hw, c2]
              rfl
            · cases hk
          · cases hk
        · cases hk
    · cases hk
  case convert s d x =>
    simp only [opK0] at hk ⊢
    split at hk
    · rename_i p hp
      rw [hp] at hc
      refine convK_one ?_ hk
      intro g y e
      subst e
      cases g <;> simp at hc
    · cases hk
  case lookup t x i co =>
    simp only [opK0] at hk ⊢
    split at hk
    · rename_i p q hp hq
      unfold lookupK at hk ⊢
      split at hk
      · rename_i kt vt n g a ht
        split at hk
        · rename_i k v es hn
          split at hk
          · rename_i a' ha
            obtain ⟨c1, hk⟩ := bif_some hk
            cases co with
            | true =>
              obtain ⟨rfl, rfl⟩ := pinj hk
              refine ⟨rfl, fun l => ?_⟩
              simp only [nth_app hn, ha, c1, cond_true]
              rfl
            | false =>
              obtain ⟨rfl, rfl⟩ := pinj hk
              refine ⟨rfl, fun l => ?_⟩
              simp only [nth_app hn, ha, c1, cond_true, cond_false]
              rfl
          · cases hk
        · cases hk
      · cases hk
    · cases hk
  case slice t x lo hi mx =>
    cases hx0 : ev x with
    | none => rw [hx0] at hc; simp [Nat.beq] at hc
    | some p0 =>
    rw [hx0] at hc
    simp only at hc
    cases hvw : vwB E x p0 with
    | false => rw [hvw] at hc; exact (bif03 hc).elim
    | true =>
      simp only [opK0, hx0] at hk ⊢
      split at hk
      · rename_i p a b c hp ha hb hc'
        cases hp
        simp only [hvw, cond_true] at hk ⊢
        unfold viewK at hk ⊢
        split at hk
        · rename_i e lo' hi' ht hlo hhi
          split at hk
          · rename_i n
            split at hk
            · rename_i g xs hn
              obtain ⟨c1, hk⟩ := bif_some hk
              unfold asrt at hk
              obtain ⟨c2, hk⟩ := bif_some hk
              obtain ⟨rfl, rfl⟩ := pinj hk
              refine ⟨rfl, fun l => ?_⟩
              simp only [nth_app hn, c1, cond_true, asrt, c2]
              rfl
            · cases hk
          · cases hk
        · cases hk
      · cases hk
  case indexAddr t x i =>
    simp only [opK0] at hk ⊢
    split at hk
    · rename_i p q hp hq
      simp only [hp] at hc ⊢
      have hnb : ∀ n pa o, p ≠ .box n pa o := fun n pa o e => by subst e; simp at hc
      rw [indexAddrK_nb hnb] at hk
      refine Eq.mp (congrArg (fun q => h' = h ∧ ∀ l, q l) (funext fun l => by rw [indexAddrK_nb hnb])) ?_
      unfold sliceAddrK at hk ⊢
      split at hk
      · rename_i e k n ht
        split at hk
        · simp at hc
        · split at hk
          · rename_i g xs hn
            obtain ⟨c1, hk⟩ := bif_some hk
            unfold asrt at hk
            obtain ⟨c2, hk⟩ := bif_some hk
            obtain ⟨rfl, rfl⟩ := pinj hk
            refine ⟨rfl, fun l => ?_⟩
            simp only [nth_app hn, c1, cond_true, asrt, c2]
            rfl
          · rename_i q g xs ii uu hn
            obtain ⟨c1, hk⟩ := bif_some hk
            unfold asrt at hk
            obtain ⟨c2, hk⟩ := bif_some hk
            obtain ⟨rfl, rfl⟩ := pinj hk
            refine ⟨rfl, fun l => ?_⟩
            simp only [nth_app hn, c1, cond_true, asrt, c2]
            rfl
          · cases hk
        · simp at hc
        · obtain ⟨c1, hk⟩ := bif_some hk
          unfold asrt at hk
          obtain ⟨c2, hk⟩ := bif_some hk
          obtain ⟨rfl, rfl⟩ := pinj hk
          refine ⟨rfl, fun l => ?_⟩
          simp only [c1, cond_true, asrt, c2]
          rfl
        · cases hk
      · cases hk
    · cases hk
  case call c =>
    obtain ⟨callee, args, tys⟩ := c
    cases callee with
    | invoke _ _ => simp at hc
    | value f =>
      simp only [opK0] at hk ⊢
      split at hk
      · rename_i vs hvs
        split at hk
        · rename_i f' caps hf
          simp only [hf, hvs] at hc ⊢
          obtain ⟨c1, hk⟩ := bif_some hk
          unfold callK at hk ⊢
          cases hp : E.isPm f' with
          | false => simp only [hp, cond_false] at hc; exact (bif23 hc (.inr rfl)).elim
          | true =>
            rw [hp] at hk
            simp only [cond_true] at hk ⊢
            split at hk
            · rename_i res hres
              obtain ⟨z, hz, hk⟩ := Option.bind_eq_some_iff.1 hk
              obtain ⟨rfl, rfl⟩ := pinj hk
              refine ⟨rfl, fun l => ?_⟩
              simp only [c1, cond_true, hE.mono f' _ _ res l hp hres, hz, Option.bind_some]
              rfl
            · cases hk
        · cases hk
      · cases hk
    | builtin b =>
      simp only [opK0] at hk ⊢
      cases b <;> simp only at hc <;> try (cases hc; done)
      case append =>
        split at hc
        · exact (bif23 hc (.inr rfl)).elim
        · cases hc
      case len =>
        split at hc
        · rename_i x hx
          rw [hx] at hk ⊢
          simp only [evs] at hk ⊢
          cases hv : ev x with
          | none => rw [hv] at hk; cases hk
          | some p =>
            simp only [hv] at hk hc ⊢
            unfold builtinK at hk ⊢
            split at hk
            · rename_i y t hy ht
              cases hy
              unfold lenK at hk ⊢
              split at hk <;> try (simp at hc; done)
              · rename_i e n htt
                split at hk
                · rename_i g xs hn
                  obtain ⟨rfl, rfl⟩ := pinj hk
                  refine ⟨rfl, fun l => ?_⟩
                  simp only [nth_app hn]
                  rfl
                · rename_i q g xs ii uu hn
                  obtain ⟨rfl, rfl⟩ := pinj hk
                  refine ⟨rfl, fun l => ?_⟩
                  simp only [nth_app hn]
                  rfl
                · cases hk
              · obtain ⟨rfl, rfl⟩ := pinj hk
                exact ⟨rfl, fun l => rfl⟩
              · cases hk
            · rename_i heq; simp at heq
            · rename_i heq; simp at heq
            · rename_i heq; simp at heq
            · rename_i heq; simp at heq
            · rename_i heq _; cases heq
            · rename_i heq; simp at heq
            · cases hk
        · cases hc

/-- A load looks at one object. -/
theorem opK0_rd {E : Env} {o : Op} {gc un : Bool} {ev : Operand → Option SV} {evg : Nat → Bool → Operand → Option SV} {h h' : List SO} {v : SV} {F : List Nat} (hc : clsK E o ev = 1) (hf : footK E o ev h = some F)
    (hk : opK0 E o gc un ev evg h pair = some (v, h')) : ∃ n x, F = [n] ∧ nth h n = some x ∧ ∀ h2, nth h2 n = some x → opK0 E o gc un ev evg h2 pair = some (v, h2) := by
  cases o <;> simp only [footK] at hf <;> try (cases hf; done)
  case load t a =>
    simp only [opK0] at hk ⊢
    split at hk
    · rename_i p hp
      simp only [hp] at hf ⊢
      cases p <;> simp only at hf <;> try (cases hf; done)
      case box m path off =>
        cases hf
        unfold loadK at hk ⊢
        simp only at hk ⊢
        split at hk
        · rename_i u hn
          refine ⟨_, _, rfl, hn, fun h2 e => ?_⟩
          simp only [e]
          obtain ⟨c1, hk⟩ := bif_some hk
          split at hk
          · rename_i w hw
            obtain ⟨c2, hk⟩ := bif_some hk
            obtain ⟨rfl, rfl⟩ := pinj hk
            simp only [c1, cond_true, hw, c2]
            rfl
          · cases hk
        · cases hk
      case el m g i path off =>
        cases hf
        unfold loadK at hk ⊢
        simp only at hk ⊢
        split at hk
        · rename_i g' xs hn
          refine ⟨_, _, rfl, hn, fun h2 e => ?_⟩
          rw [e]
          simp only
          split at hk
          · rename_i ys hy
            obtain ⟨z, hz, hk⟩ := Option.bind_eq_some_iff.1 hk
            obtain ⟨c1, hk⟩ := bif_some hk
            split at hk
            · rename_i w hw
              obtain ⟨c2, hk⟩ := bif_some hk
              obtain ⟨rfl, rfl⟩ := pinj hk
              simp only [hz, Option.bind_some, c1, cond_true, hw, c2]
              rfl
            · cases hk
          · cases hk
        · rename_i g' xs jj uu hn
          refine ⟨_, _, rfl, hn, fun h2 e => ?_⟩
          rw [e]
          simp only
          obtain ⟨c0, hk⟩ := bif_some hk
          unfold asrt at hk ⊢
          obtain ⟨c1, hk⟩ := bif_some hk
          obtain ⟨c2, hk⟩ := bif_some hk
          split at hk
          · rename_i w hw
            obtain ⟨c3, hk⟩ := bif_some hk
            obtain ⟨rfl, rfl⟩ := pinj hk
            simp only [c0, c1, c2, c3, cond_true, hw]
            rfl
          · cases hk
        · rename_i g' xs jj uu hn
          refine ⟨_, _, rfl, hn, fun h2 e => ?_⟩
          rw [e]
          simp only
          split at hk
          · rename_i ys hy
            obtain ⟨z, hz, hk⟩ := Option.bind_eq_some_iff.1 hk
            obtain ⟨c1, hk⟩ := bif_some hk
            split at hk
            · rename_i w hw
              obtain ⟨c2, hk⟩ := bif_some hk
              obtain ⟨rfl, rfl⟩ := pinj hk
              simp only [hz, Option.bind_some, c1, cond_true, hw, c2]
              rfl
            · cases hk
          · cases hk
        · cases hk
    · cases hk
  case store t a x => simp [clsK] at hc
  case indexAddr t x i =>
    simp only [opK0] at hk ⊢
    split at hk
    · rename_i u w hu hw
      simp only [hu, hw] at hf ⊢
      cases u <;> simp only at hf <;> try (cases hf; done)
      cases hf
      simp only [indexAddrK] at hk ⊢
      unfold sliceAddrK at hk ⊢
      split at hk
      · simp only at hk ⊢
        split at hk
        · rename_i g xs hn
          refine ⟨_, _, rfl, hn, fun h2 e => ?_⟩
          rw [e]
          simp only
          obtain ⟨c1, hk⟩ := bif_some hk
          unfold asrt at hk ⊢
          obtain ⟨c2, hk⟩ := bif_some hk
          obtain ⟨rfl, rfl⟩ := pinj hk
          simp only [c1, c2, cond_true]
          rfl
        · rename_i q g xs ii uu hn
          refine ⟨_, _, rfl, hn, fun h2 e => ?_⟩
          rw [e]
          simp only
          obtain ⟨c1, hk⟩ := bif_some hk
          unfold asrt at hk ⊢
          obtain ⟨c2, hk⟩ := bif_some hk
          obtain ⟨rfl, rfl⟩ := pinj hk
          simp only [c1, c2, cond_true]
          rfl
        · cases hk
      · cases hk
    · cases hk
  case slice t x lo hi mx =>
    simp only [opK0] at hk ⊢
    split at hk
    · rename_i v lo' hi' mx' hv hlo hhi hmx
      simp only [hv] at hf
      cases v <;> simp only at hf <;> try (cases hf; done)
      rename_i n
      obtain ⟨hw, hf⟩ := bif_some hf
      cases hf
      have hvb : vwB E x (.own n) = true := by simp [vwB, hw, isOwn1]
      simp only [hv, hlo, hhi, hmx, hvb, cond_true] at hk ⊢
      unfold viewK at hk ⊢
      split at hk
      · simp only at hk ⊢
        split at hk
        · rename_i g xs hn
          refine ⟨_, _, rfl, hn, fun h2 e => ?_⟩
          rw [e]
          simp only
          obtain ⟨c1, hk⟩ := bif_some hk
          unfold asrt at hk ⊢
          obtain ⟨c2, hk⟩ := bif_some hk
          obtain ⟨rfl, rfl⟩ := pinj hk
          simp only [c1, c2, cond_true]
          rfl
        · cases hk
      · cases hk
    · cases hk
  case call c =>
    exfalso
    simp only [clsK] at hc
    split at hf
    · rename_i f hcal
      split at hf
      · rename_i hff haa
        simp only [hcal, hff, haa] at hc
        cases hp : E.isPm _ with
        | true => rw [hp] at hf; cases hf
        | false =>
          rw [hp] at hc
          simp only [cond_false] at hc
          revert hc
          cases (E.isO _ && _) <;> simp
      · cases hf
    · rename_i hcal
      split at hf
      · rename_i haa
        simp only [hcal, haa] at hc
        cases hc
      · cases hf
    · cases hf

theorem appendK_wr {P : Program} {ts : List TypeId} {un : Bool} {m : Nat} {x v : SV} {h h' : List SO} (hk : appendK P ts un (.own m) x h pair = some (v, h')) : ∀ (n : Nat) (y : SO), n ≠ m → nth h n = some y → nth h' n = some y := by
  intro n y hnm hy
  have hlt : n < h.length := by rw [nth_eq] at hy; exact (List.getElem?_eq_some_iff.1 hy).1
  unfold appendK at hk
  split at hk
  · split at hk
    · split at hk
      · obtain ⟨_, hk⟩ := bif_some hk
        split at hk
        · simp only at hk
          split at hk
          · split at hk
            · obtain ⟨_, hk⟩ := asrt_true hk
              obtain ⟨_, rfl⟩ := pinj hk
              rw [← hy, nth_eq, nth_eq, List.getElem?_append_left (by rw [setN_eq, List.length_set]; exact hlt), setN_eq, List.getElem?_set_ne (fun e => hnm e.symm)]
            · cases hk
          · cases hk
        · cases hk
      · cases hk
    · cases hk
  · cases hk

/-- A store changes one object. -/
theorem opK0_wr {E : Env} (hE : EnvOk E) {o : Op} {gc un : Bool} {ev : Operand → Option SV} {evg : Nat → Bool → Operand → Option SV} {h h' : List SO} {v : SV} {F : List Nat} (hc : clsK E o ev = 3) (hf : footK E o ev h = some F)
    (hk : opK0 E o gc un ev evg h pair = some (v, h')) : ∀ n x, n ∉ F → nth h n = some x → nth h' n = some x := by
  cases o <;> simp only [footK] at hf <;> try (cases hf; done)
  case load t a =>
    exfalso
    simp only [clsK] at hc
    split at hc <;> cases hc
  case store t a x =>
    simp only [opK0] at hk
    split at hk
    · rename_i p u hp hxu
      simp only [hp] at hf
      obtain ⟨_, hk⟩ := bif_some hk
      obtain ⟨m, path, off, rfl⟩ : ∃ m path off, p = .box m path off := by
        cases p <;> simp only at hf <;> first | (cases hf; done) | exact ⟨_, _, _, rfl⟩
      simp only at hf
      have plain : ∀ {w : SV} {h1 h' : List SO} {v : SV}, storeK E.P t (.box m path off) w h1 pair = some (v, h') → ∀ n x, n ≠ m → nth h1 n = some x → nth h' n = some x := by
        intro w h1 h' v hk
        unfold storeK at hk
        simp only at hk
        split at hk
        · obtain ⟨_, hk⟩ := bif_some hk
          split at hk
          · obtain ⟨rfl, rfl⟩ := pinj hk
            intro n x hn hx
            rw [← hx, nth_eq, nth_eq, setN_eq, List.getElem?_set_ne (fun e => hn e.symm)]
          · cases hk
        · cases hk
      unfold storeN at hk
      cases hns : nslAt h (.box m path off) with
      | none =>
        rw [hns] at hk hf
        simp only at hk hf
        cases hf
        intro n x hn hx
        exact plain hk n x (by simpa using hn) hx
      | some g =>
        rw [hns] at hk hf
        simp only [hxu] at hk hf
        cases hf
        intro n x hn hx
        simp only [List.mem_cons, not_or] at hn
        split at hk
        · exact plain hk n x hn.1 hx
        · obtain ⟨_, hk⟩ := bif_some hk
          split at hk
          · obtain ⟨_, hk⟩ := asrt_true hk
            exact plain hk n x hn.1 (by rw [kill_nth _ _ hn.2]; exact hx)
          · cases hk
    · cases hk
  case indexAddr t x i =>
    exfalso
    simp only [clsK] at hc
    split at hc
    · cases hc
    · split at hc <;> cases hc
  case slice t x lo hi mx =>
    exfalso
    split at hf
    · rename_i n hx
      obtain ⟨hw, hf⟩ := bif_some hf
      have hvb : vwB E x (.own n) = true := by simp [vwB, hw, isOwn1]
      simp only [clsK, hx, hvb, cond_true] at hc
      cases hc
    · cases hf
  case call c =>
    simp only [opK0] at hk
    split at hk
    · rename_i args hargs
      split at hf
      · rename_i f hcal
        simp only [hcal] at hk
        split at hf
        · rename_i f' caps args' hff haa
          simp only [hff] at hk
          rw [hargs] at haa
          cases haa
          obtain ⟨_, hk⟩ := bif_some hk
          cases hp : E.isPm f' with
          | true => rw [hp] at hf; cases hf
          | false =>
            rw [hp] at hf
            simp only [cond_false, Option.some.injEq] at hf
            subst hf
            unfold callK at hk
            rw [hp] at hk
            simp only [cond_false] at hk
            obtain ⟨_, hk⟩ := bif_some hk
            unfold locK at hk
            rw [hE.nat] at hk
            obtain ⟨⟨v1, h1⟩, _, hk⟩ := Option.bind_eq_some_iff.1 hk
            simp only at hk
            split at hk
            · rename_i h2 hr
              obtain ⟨rfl, e0⟩ := pinj hk
              rw [e0]
              obtain ⟨q1, q2, q3⟩ := restH_spec _ 0 h h1 h2 hr
              intro n x hn hx
              have hlt : n < h.length := by rw [nth_eq] at hx; exact (List.getElem?_eq_some_iff.1 hx).1
              have hF : (reach h 4 (namesAll (args ++ caps.toL))).any (Nat.beq (0 + n)) = false := by
                rw [Nat.zero_add]
                cases hb : (reach h 4 (namesAll (args ++ caps.toL))).any (Nat.beq n) with
                | false => rfl
                | true =>
                  obtain ⟨m, hm, he⟩ := List.any_eq_true.1 hb
                  exact absurd (by rw [Nat.eq_of_beq_eq_true he]; exact hm) hn
              rw [(((q3 n).1 hlt).2 hF).1, hx]
            · cases hk
        · cases hf
      · rename_i hcal
        simp only [hcal] at hk
        split at hf
        · rename_i m x haa
          rw [hargs] at haa
          cases haa
          cases hf
          intro n y hn hy
          have hnm : n ≠ m := by simpa using hn
          change appendK E.P c.argTypes.toList un (.own m) x h pair = some (v, h') at hk
          exact appendK_wr hk n y hnm hy
        · cases hf
      · cases hf
    · cases hk

theorem clsK_congr {E : Env} {o : Op} {ev ev' : Operand → Option SV} (he : ∀ x ∈ o.operands, ev x = ev' x) : clsK E o ev = clsK E o ev' := by
  cases o <;> simp only [clsK] <;> simp only [Op.operands] at he
  case buildSlice t n ps => rw [inOrder_congr ps.toList 0 (fun x hx => he x.2 (by simp; exact ⟨x.1, by simpa using hx⟩))]
  case load t x => rw [he x (by simp)]
  case convert s d x => rw [he x (by simp)]
  case slice t x lo hi mx => rw [he x (by simp)]
  case indexAddr t x i => rw [he x (by simp)]
  case call c =>
    obtain ⟨callee, args, tys⟩ := c
    simp only [Call.operands] at he
    cases callee with
    | value f => simp only; rw [he f (by simp), evs_congr args.toList (fun x hx => he x (by simp at hx ⊢; exact .inr hx))]
    | invoke _ _ => rfl
    | builtin b =>
      cases b <;> try rfl
      case append => simp only; rw [evs_congr args.toList (fun x hx => he x (by simpa using hx))]
      simp only
      split
      · rename_i x hx
        rw [he x (by have : x ∈ args.toList := by rw [hx]; simp
                     simpa using this)]
      · rfl

theorem opK_congr {E : Env} {R : Type} {o : Oper} {gc un : Bool} {ev ev' : Operand → Option SV} {evg evg' : Nat → Bool → Operand → Option SV} {h : List SO} {K : Kont R}
    (he : ∀ x ∈ o.op.operands, ev x = ev' x) (hg : ∀ c t x, x ∈ o.op.operands → evg c t x = evg' c t x) : opK E o gc un ev evg h K = opK E o gc un ev' evg' h K := by
  unfold opK
  rw [clsK_congr he, opK0_congr he hg, opK0_congr (gc := true) he hg]

theorem opK_low {E : Env} {R : Type} {o : Oper} {gc un : Bool} {ev : Operand → Option SV} {evg : Nat → Bool → Operand → Option SV} (hc : clsK E o.op ev ≤ 1) (h : List SO) (K : Kont R) :
    opK E o gc un ev evg h K = opK0 E o.op gc un ev evg h K := by
  unfold opK
  have : Nat.ble (clsK E o.op ev) 1 = true := by rw [Nat.ble_eq]; exact hc
  rw [this, Bool.or_true]
  rfl

theorem opK_ind {E : Env} {R : Type} {o : Oper} {gc un : Bool} {ev : Operand → Option SV} {evg : Nat → Bool → Operand → Option SV} (hc : clsK E o.op ev = 0) (h h2 : List SO) (K : Kont R) :
    opK E o gc un ev evg h K = opK E o gc un ev evg h2 fun v _ => K v h := by
  rw [opK_low (by omega), opK_low (by omega)]
  exact opK0_ind hc h h2 K

theorem opK_one {E : Env} (hE : EnvOk E) {o : Oper} {gc un : Bool} {ev : Operand → Option SV} {evg : Nat → Bool → Operand → Option SV} {h h' : List SO} {v : SV} (hc : clsK E o.op ev = 1)
    (hk : opK E o gc un ev evg h pair = some (v, h')) : h' = h ∧ ∀ l, opK E o gc un ev evg (h ++ l) pair = some (v, h ++ l) := by
  rw [opK_low (by omega)] at hk
  obtain ⟨h1, h2⟩ := opK0_one hE hc hk
  exact ⟨h1, fun l => by rw [opK_low (by omega)]; exact h2 l⟩

theorem opK_rd {E : Env} {o : Oper} {gc un : Bool} {ev : Operand → Option SV} {evg : Nat → Bool → Operand → Option SV} {h h' : List SO} {v : SV} {F : List Nat} (hc : clsK E o.op ev = 1) (hf : footK E o.op ev h = some F)
    (hk : opK E o gc un ev evg h pair = some (v, h')) : ∃ n x, F = [n] ∧ nth h n = some x ∧ ∀ h2, nth h2 n = some x → opK E o gc un ev evg h2 pair = some (v, h2) := by
  rw [opK_low (by omega)] at hk
  obtain ⟨n, x, h0, h1, h2⟩ := opK0_rd hc hf hk
  exact ⟨n, x, h0, h1, fun l hl => by rw [opK_low (by omega)]; exact h2 l hl⟩

theorem opK_wr {E : Env} (hE : EnvOk E) {o : Oper} {gc un : Bool} {ev : Operand → Option SV} {evg : Nat → Bool → Operand → Option SV} {h h' : List SO} {v : SV} {F : List Nat} (hc : clsK E o.op ev = 3) (hf : footK E o.op ev h = some F)
    (hk : opK E o gc un ev evg h pair = some (v, h')) : ∀ n x, n ∉ F → nth h n = some x → nth h' n = some x := by
  unfold opK at hk
  cases hb : (un || Nat.ble (clsK E o.op ev) 1) with
  | true => rw [hb] at hk; exact opK0_wr hE hc hf hk
  | false =>
    rw [hb] at hk
    cases gc with
    | true => exact opK0_wr hE hc hf hk
    | false =>
      intro n x _ hx
      rw [(pinj hk).2]
      exact hx

end Go.Eng
