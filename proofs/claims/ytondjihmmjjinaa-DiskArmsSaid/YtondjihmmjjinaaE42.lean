/- The engine, part 42: a range over a map, whose rounds set or strike the entry that has come. -/
import Derived.Test.YtondjihmmjjinaaE40
import Derived.Test.YtondjihmmjjinaaE41
import Derived.Maps.RangeRun
namespace Go.Eng
open Go
set_option linter.unusedVariables false
set_option linter.unusedSimpArgs false

/-! ### The plain side -/

/-- No key comes twice. -/
def nodK (k v : GT) : List (k.ty × v.ty) → Bool
  | [] => true
  | e :: es => es.all (fun q => !(k.eqv q.1 e.1)) && nodK k v es

theorem nodK_pos {k v : GT} : ∀ {es : List (k.ty × v.ty)} {p : Nat} {x : k.ty} {y : v.ty}, nodK k v es = true → es[p]? = some (x, y) → k.eqv x x = true → posM k v x es = p
  | [], p, x, y, _, h, _ => by simp at h
  | e :: es, 0, x, y, hn, h, hr => by
    simp only [List.getElem?_cons_zero, Option.some.injEq] at h
    subst h
    simp [posM, hr]
  | e :: es, p + 1, x, y, hn, h, hr => by
    simp only [nodK, Bool.and_eq_true, List.all_eq_true] at hn
    simp only [List.getElem?_cons_succ] at h
    have := hn.1 (x, y) (List.mem_of_getElem? h)
    simp only [Bool.not_eq_true'] at this
    simp only [posM, this, cond_false, nodK_pos hn.2 h hr]

theorem posM_put {k v : GT} : ∀ {es : List (k.ty × v.ty)} {p : Nat} {x : k.ty} {y : v.ty}, posM k v x es = p → p < es.length → putM k v x y es = es.set p (x, y) ∧ (mapAt k v x es).isSome = true
  | [], p, x, y, _, h => by simp at h
  | e :: es, p, x, y, hp, h => by
    simp only [posM] at hp
    simp only [putM, mapAt]
    cases hq : k.eqv x e.1 with
    | true =>
      rw [hq] at hp
      simp only [cond_true] at hp ⊢
      subst hp
      exact ⟨rfl, rfl⟩
    | false =>
      rw [hq] at hp
      simp only [cond_false] at hp ⊢
      subst hp
      obtain ⟨h1, h2⟩ := posM_put (es := es) (p := posM k v x es) (y := y) rfl (by simpa using h)
      exact ⟨by rw [h1]; rfl, h2⟩

theorem nodK_set {k v : GT} : ∀ {es : List (k.ty × v.ty)} {p : Nat} {x : k.ty} {y y' : v.ty}, nodK k v es = true → es[p]? = some (x, y) → nodK k v (es.set p (x, y')) = true
  | [], p, x, y, y', _, h => by simp at h
  | e :: es, 0, x, y, y', hn, h => by
    simp only [List.getElem?_cons_zero, Option.some.injEq] at h
    subst h
    simpa [nodK] using hn
  | e :: es, p + 1, x, y, y', hn, h => by
    simp only [nodK, Bool.and_eq_true, List.all_eq_true] at hn
    simp only [List.getElem?_cons_succ] at h
    simp only [List.set_cons_succ, nodK, Bool.and_eq_true, List.all_eq_true]
    refine ⟨fun q hq => ?_, nodK_set hn.2 h⟩
    rcases List.mem_or_eq_of_mem_set hq with hq | rfl
    · exact hn.1 q hq
    · exact hn.1 (x, y) (List.mem_of_getElem? h)

theorem nodK_erase {k v : GT} : ∀ {es : List (k.ty × v.ty)} {p : Nat}, nodK k v es = true → nodK k v (es.eraseIdx p) = true
  | [], p, _ => rfl
  | e :: es, 0, hn => by simp only [nodK, Bool.and_eq_true] at hn; exact hn.2
  | e :: es, p + 1, hn => by
    simp only [nodK, Bool.and_eq_true, List.all_eq_true] at hn
    simp only [List.eraseIdx_cons_succ, nodK, Bool.and_eq_true, List.all_eq_true]
    exact ⟨fun q hq => hn.1 q (List.mem_of_mem_eraseIdx hq), nodK_erase hn.2⟩

/-- What the map will be: entries whose stamps were seen stay, the others are yet to come. -/
def finM {K V : Type} (f : K × V → Option V) (seen : Array Nat) : List Nat → List (K × V) → List (K × V)
  | b :: bs, e :: es => match seen.contains b with
    | true => e :: finM f seen bs es
    | false => match f e with
      | some y => (e.1, y) :: finM f seen bs es
      | none => finM f seen bs es
  | _, _ => []

theorem finM_seen {K V : Type} {f : K × V → Option V} {seen : Array Nat} : ∀ {bs : List Nat} {es : List (K × V)}, bs.length = es.length → (∀ b ∈ bs, seen.contains b = true) → finM f seen bs es = es
  | [], [], _, _ => rfl
  | b :: bs, e :: es, hl, h => by
    simp only [finM, h b (by simp)]
    rw [finM_seen (by simpa using hl) (fun b hb => h b (by simp [hb]))]
  | [], _ :: _, hl, _ => by simp at hl
  | _ :: _, [], hl, _ => by simp at hl

theorem finM_push {K V : Type} {f : K × V → Option V} {seen : Array Nat} {b : Nat} : ∀ {bs : List Nat} {es : List (K × V)}, b ∉ bs → finM f (seen.push b) bs es = finM f seen bs es
  | [], _, _ => by simp [finM]
  | _ :: _, [], _ => by simp [finM]
  | c :: bs, e :: es, h => by
    simp only [List.mem_cons, not_or] at h
    have : (seen.push b).contains c = seen.contains c := by
      simp [Array.contains_push, Ne.symm h.1]
    simp only [finM, this, finM_push h.2]

theorem finM_set {K V : Type} {f : K × V → Option V} {seen : Array Nat} {b : Nat} {x : K} {y y' : V} (hf : f (x, y) = some y') (hs : seen.contains b = false) : ∀ {bs : List Nat} {es : List (K × V)} {p : Nat}, bs.Nodup → bs[p]? = some b → es[p]? = some (x, y) →
    finM f (seen.push b) bs (es.set p (x, y')) = finM f seen bs es
  | [], _, p, _, h, _ => by simp at h
  | _ :: _, [], p, _, _, h => by simp at h
  | c :: bs, e :: es, 0, hn, h1, h2 => by
    simp only [List.getElem?_cons_zero, Option.some.injEq] at h1 h2
    subst h1; subst h2
    have hc : (seen.push c).contains c = true := by simp
    simp only [List.set_cons_zero, finM, hc, hs, hf, finM_push (List.nodup_cons.1 hn).1]
  | c :: bs, e :: es, p + 1, hn, h1, h2 => by
    simp only [List.getElem?_cons_succ] at h1 h2
    have hne : b ≠ c := fun e => (List.nodup_cons.1 hn).1 (e ▸ List.mem_of_getElem? h1)
    have : (seen.push b).contains c = seen.contains c := by simp [Array.contains_push, Ne.symm hne]
    simp only [List.set_cons_succ, finM, this, finM_set hf hs (List.nodup_cons.1 hn).2 h1 h2]

theorem finM_erase {K V : Type} {f : K × V → Option V} {seen : Array Nat} {b : Nat} {x : K} {y : V} (hf : f (x, y) = none) (hs : seen.contains b = false) : ∀ {bs : List Nat} {es : List (K × V)} {p : Nat}, bs.Nodup → bs[p]? = some b → es[p]? = some (x, y) →
    finM f (seen.push b) (bs.eraseIdx p) (es.eraseIdx p) = finM f seen bs es
  | [], _, p, _, h, _ => by simp at h
  | _ :: _, [], p, _, _, h => by simp at h
  | c :: bs, e :: es, 0, hn, h1, h2 => by
    simp only [List.getElem?_cons_zero, Option.some.injEq] at h1 h2
    subst h1; subst h2
    simp only [List.eraseIdx_cons_zero, finM, hs, hf, finM_push (List.nodup_cons.1 hn).1]
  | c :: bs, e :: es, p + 1, hn, h1, h2 => by
    simp only [List.getElem?_cons_succ] at h1 h2
    have hne : b ≠ c := fun e => (List.nodup_cons.1 hn).1 (e ▸ List.mem_of_getElem? h1)
    have : (seen.push b).contains c = seen.contains c := by simp [Array.contains_push, Ne.symm hne]
    simp only [List.eraseIdx_cons_succ, finM, this, finM_erase hf hs (List.nodup_cons.1 hn).2 h1 h2]

/-- What the rounds make of a map. -/
def overM {K V : Type} (f : K × V → Option V) (es : List (K × V)) : List (K × V) := es.filterMap fun e => (f e).map fun y => (e.1, y)

theorem finM_start {K V : Type} {f : K × V → Option V} : ∀ {bs : List Nat} {es : List (K × V)}, bs.length = es.length → finM f #[] bs es = overM f es
  | [], [], _ => rfl
  | b :: bs, e :: es, hl => by
    have hc : (#[] : Array Nat).contains b = false := by simp
    simp only [finM, hc, overM, List.filterMap_cons]
    rw [finM_start (es := es) (by simpa using hl)]
    cases f e <;> rfl
  | [], _ :: _, hl => by simp at hl
  | _ :: _, [], hl => by simp at hl

/-! ### What lies beside the engine's heap -/

/-- What is no object's block. -/
def Besd (B1 : Base) (L : Nat) (o : Obj) : Prop := B1.w.heap[L]? = some o ∧ ¬ B1.own L ∧ ¬ B1.Ok L

theorem Besd.ok {B1 : Base} {L : Nat} {o : Obj} (h : Besd B1 L o) {X : HS} {hp : List SO} (H : HRep B1 X hp) : ¬ X.Ok L := fun q => by
  have hlt : L < B1.w.heap.size := (Array.getElem?_eq_some_iff.1 h.1).1
  rcases H.okNew L q with q | q | q
  · exact h.2.2 q
  · omega
  · exact h.2.1 q
theorem Besd.no {B1 : Base} {L : Nat} {o : Obj} (h : Besd B1 L o) {X : HS} {hp : List SO} (H : HRep B1 X hp) : ∀ n ob, nth hp n = some ob → ob.live = true → blkOf X n ≠ some L := fun n ob h1 h2 h3 => by
  have hlt : L < B1.w.heap.size := (Array.getElem?_eq_some_iff.1 h.1).1
  rcases H.ownNew n ob L h1 h2 h3 with q | q
  · exact h.2.1 q
  · omega
theorem Besd.at' {B1 : Base} {L : Nat} {o : Obj} (h : Besd B1 L o) {X : HS} {hp : List SO} (H : HRep B1 X hp) : X.w.heap[L]? = some o :=
  (H.fr L (Array.getElem?_eq_some_iff.1 h.1).1 h.2.1).trans h.1

theorem step_op {P : Program} {ops : Array Oper} {Q : Exit → Act → World → Prop} {o : Oper} {rest : List Oper} {a : Act} {w w' : World} {v : Value} (hg : o.guard = none) (hrun : (execOp a.eval o).run P w = .ok (.value v) w') (hK : wpList P ops Q rest (a.put o.dst v) w') :
    wpList P ops Q (o :: rest) a w := by
  refine wpList_plain hg fun K' hK' => ?_
  unfold Oper.wp
  rw [hrun]
  exact hK' _ _ hK

/-- A slot that nobody looks at is written. -/
theorem StOk.put {B : Base} {N : Nat} {X : HS} {s : St} {a : Act} (hs : StOk B N X s a) {d : Nat} (hd : lk s.regs d = none) (hN : d < N) (v : Value) : StOk B N X s (a.put (some d) v) := by
  refine ⟨fun t u hl => ?_, hs.heap, by rw [put_size']; exact hs.size, by rw [put_defers']; exact hs.defers⟩
  rw [put_get (by rw [hs.size]; exact hN)]
  rw [if_neg (fun e => by subst e; rw [hd] at hl; cases hl)]
  exact hs.regs t u hl

theorem StOk.put2 {B : Base} {N : Nat} {X : HS} {s : St} {a : Act} (hs : StOk B N X s a) {d : Nat} (hN : d < N) {v : Value} {u : SV} (hv : Rep X u .val [v]) : StOk B N X ⟨(d, u) :: s.regs, s.heap⟩ (a.put (some d) v) := by
  refine ⟨fun t u' hl => ?_, hs.heap, by rw [put_size']; exact hs.size, by rw [put_defers']; exact hs.defers⟩
  rw [put_get (by rw [hs.size]; exact hN)]
  simp only [lk] at hl
  cases hb : Nat.beq d t with
  | true =>
    rw [hb] at hl
    simp only [cond_true, Option.some.injEq] at hl
    subst hl
    rw [if_pos (Nat.eq_of_beq_eq_true hb).symm]
    exact hv
  | false =>
    rw [hb] at hl
    rw [if_neg (fun e => by subst e; simp at hb)]
    exact hs.regs t u' hl

/-- What is known at the head of a range over a map. -/
structure MInv {k v : GT} (B : Base) (N n it r I c : Nat) (rl : List (Nat × SV)) (hp : List SO) (X : HS) (a : Act) (seen : Array Nat) (es : List (k.ty × v.ty)) (bs : List Nat) : Prop where
  st : StOk B N X ⟨(it, .dat .opq (.pointer (some ⟨I, 0, none⟩))) :: rl, setN hp n (.mapB k v es bs c)⟩ a
  iter : X.w.heap[I]? = some (.mapIter (some r) c seen c)
  map : X.ρ[n]? = some (.map (some r))
  hI : B.w.heap.size ≤ I
  ok : ¬ X.Ok I
  no : ∀ n' o, nth (setN hp n (.mapB k v es bs c)) n' = some o → o.live = true → blkOf X n' ≠ some I
  len : bs.length = es.length
  nod : nodK k v es = true

theorem opq_val {X : HS} {v u : Value} (h : Rep X (.dat .opq v) .val [u]) : u = v := by
  obtain ⟨cs, ⟨rfl, _⟩, h2⟩ := h
  simpa [mkV, GT.isAgg] using h2

theorem refl_of_rep {P : Program} {kt : TypeId} {k : GT} (he : eqTy P 40 kt k = true) (x : k.ty) : k.eqv x x = true := eqv_refl 40 kt k he x

/-- The code of a range's round, and what it does with the entry that has come. -/
structure RCode (E : Env) {k v : GT} (C : Cfg) (N n it c d1 d2 d3 : Nat) (kt : TypeId) (rl : List (Nat × SV)) (hp : List SO) (f : k.ty × v.ty → Option v.ty) (st : k.ty × v.ty → Bool) (on ox oe : Oper) (l2 : List Oper) (rest : Code) (slots : List Nat) : Prop where
  hon : on.op = .next (.tmp it) false ∧ on.dst = some d1 ∧ on.guard = none
  hox : ox.op = .extract (.tmp d1) 0 ∧ ox.dst = some d2 ∧ ox.guard = none
  hoe : oe.op = .entry (.tmp it) ∧ oe.dst = some d3 ∧ oe.guard = none
  frl : lk rl it = none
  lt1 : d1 < N
  lt2 : d2 < N
  lt3 : d3 < N
  f1 : ∀ u, lk ((it, u) :: rl) d1 = none
  f2 : ∀ u, lk ((it, u) :: rl) d2 = none
  ds : dstsOk N l2 = true
  lm : LmOk E C N rest
  key : eqTy E.P 40 kt k = true
  hn : n < hp.length
  body : ∀ (es : List (k.ty × v.ty)) (bs : List Nat) (x : k.ty) (y : v.ty) (ptr : Value), (mapAt k v x es).isSome = true →
      runOps E (oe :: l2) ((d3, .tup (.scons (.dat k x) (.scons (.dat v y) .snil))) :: (it, .dat .opq ptr) :: rl) l2 [] (setN hp n (.mapB k v es bs c))
        (fun rs h => execC E C N hp.length rest ⟨after rs ((d3, .tup (.scons (.dat k x) (.scons (.dat v y) .snil))) :: (it, .dat .opq ptr) :: rl), h⟩ fun e s => match e with
          | .normal => canonK (some ⟨slots, [], []⟩) hp.length s some
          | _ => none) =
      some ⟨(it, .dat .opq ptr) :: rl, setN hp n (bif st (x, y) then .mapB k v es bs c else match f (x, y) with
        | some y' => .mapB k v (putM k v x y' es) bs c
        | none => .mapB k v (es.eraseIdx (posM k v x es)) (bs.eraseIdx (posM k v x es)) c)⟩
  stays : ∀ x y, st (x, y) = true → f (x, y) = some y

theorem nth_setN_at {h : List SO} {n : Nat} {o : SO} (hn : n < h.length) : nth (setN h n o) n = some o := by
  rw [nth_eq, setN_eq, List.getElem?_set_self hn]

/-- The world is as it was, but for the draws and a block. -/
theorem turn_set {B : Base} {X : HS} {h : List SO} (H : HRep B X h) {L : Nat} {w1 : World} (hw : w1 = X.w ∨ w1 = X.w.drew) (o : Obj) (hB : B.w.heap.size ≤ L) (hok : ¬ X.Ok L) (hno : ∀ n o, nth h n = some o → o.live = true → blkOf X n ≠ some L) :
    HRep B ⟨X.ρ, X.Ok, ChangeMaps.setBlock w1 L o⟩ h ∧ Ext X ⟨X.ρ, X.Ok, ChangeMaps.setBlock w1 L o⟩ := by
  have hh : (ChangeMaps.setBlock w1 L o).heap = X.w.heap.setIfInBounds L o := by rcases hw with rfl | rfl <;> rfl
  have key : ∀ b : Nat, b ≠ L → (ChangeMaps.setBlock w1 L o).heap[b]? = X.w.heap[b]? := fun b hb => by rw [hh, Array.getElem?_setIfInBounds, if_neg (Ne.symm hb)]
  refine H.world (by rcases hw with rfl | rfl <;> rfl) (by rcases hw with rfl | rfl <;> rfl) (by rcases hw with rfl | rfl <;> rfl) (by rw [hh]; simp) (fun b hb => key b (fun e => hok (e ▸ hb))) (fun n ob b hn hl hb => key b (fun e => hno n ob hn hl (e ▸ hb)))
    (fun b hb _ => key b (by omega))

theorem filt_le {seen : Array Nat} {b : Nat} : ∀ bs : List Nat, (bs.filter fun c => !(seen.push b).contains c).length ≤ (bs.filter fun c => !seen.contains c).length
  | [] => Nat.le_refl _
  | c :: bs => by
    have := filt_le (seen := seen) (b := b) bs
    simp only [List.filter_cons]
    cases h1 : seen.contains c with
    | true =>
      have h2 : (seen.push b).contains c = true := by rw [Array.contains_push, h1]; simp
      simp only [h2, Bool.not_true, Bool.false_eq_true, if_false]
      exact this
    | false =>
      cases h2 : (seen.push b).contains c
      · simpa using this
      · simp only [Bool.not_true, Bool.not_false, Bool.false_eq_true, if_false, if_true, List.length_cons]
        omega

theorem filt_lt {seen : Array Nat} {b : Nat} (hs : seen.contains b = false) : ∀ {bs : List Nat}, b ∈ bs → (bs.filter fun c => !(seen.push b).contains c).length < (bs.filter fun c => !seen.contains c).length
  | c :: bs, h => by
    simp only [List.filter_cons]
    by_cases e : c = b
    · subst e
      have h2 : (seen.push c).contains c = true := by simp
      have := filt_le (seen := seen) (b := c) bs
      simp only [h2, hs, Bool.not_true, Bool.not_false, Bool.false_eq_true, if_false, if_true, List.length_cons]
      omega
    · have hb : b ∈ bs := by
        rcases List.mem_cons.1 h with h | h
        · exact absurd h.symm e
        · exact h
      have := filt_lt hs hb
      have h2 : (seen.push b).contains c = seen.contains c := by simp [Array.contains_push, e]
      rw [h2]
      cases seen.contains c
      · simpa using this
      · simpa using this

theorem filt_erase {p : Nat → Bool} (bs : List Nat) (i : Nat) : ((bs.eraseIdx i).filter p).length ≤ (bs.filter p).length :=
  (List.Sublist.filter p (List.eraseIdx_sublist bs i)).length_le

theorem map_round {E : Env} (hE : EnvOk E) (hm : E.P.follows .mixedOrders = true) {k v : GT} {B : Base} {C : Cfg} {N n it r I c d1 d2 d3 i1 i2 b b2 : Nat} {kt : TypeId} {rl : List (Nat × SV)} {hp : List SO} {f : k.ty × v.ty → Option v.ty} {st : k.ty × v.ty → Bool}
    {on ox oe : Oper} {l2 : List Oper} {rest : Code} {slots : List Nat} (S : RCode E C N n it c d1 d2 d3 kt rl hp f st on ox oe l2 rest slots) {Q : Exit → Act → World → Prop} {X : HS} {a : Act} {seen : Array Nat} {es : List (k.ty × v.ty)} {bs : List Nat}
    (hI : MInv B N n it r I c rl hp X a seen es bs)
    (hq : ∀ a' X', StOk B N X' ⟨rl, setN hp n (.map k v (finM f seen bs es))⟩ a' → Ext X X' → Q (.exit b) a' X'.w)
    (ih : ∀ X' a' seen' es' bs', MInv B N n it r I c rl hp X' a' seen' es' bs' → Ext X X' → finM f seen' bs' es' = finM f seen bs es → (bs'.filter fun b => !seen'.contains b).length < (bs.filter fun b => !seen.contains b).length →
      InLoop E.P (.seq (.region i1 #[on, ox] false) (.seq (.cond (.tmp d2) .skip (.exit b)) (.block b2 (.seq (.region i2 (oe :: l2).toArray false) rest)))) Q a' X'.w) :
    InLoop E.P (.seq (.region i1 #[on, ox] false) (.seq (.cond (.tmp d2) .skip (.exit b)) (.block b2 (.seq (.region i2 (oe :: l2).toArray false) rest)))) Q a X.w := by
  have hnat := nth_setN_at (o := .mapB k v es bs c) S.hn
  obtain ⟨r', ents, m1, m2, m3, m4, m5, m6, m7⟩ := hI.st.heap.obj n _ hnat
  rw [hI.map] at m1
  cases m1
  have hit : a.tmps.getD it undef = .pointer (some ⟨I, 0, none⟩) := opq_val (hI.st.regs it _ (by simp [lk]))
  have hold : ∀ x ∈ ents.toList, x.born < c := fun x hx => m6 _ (by rw [← m5]; exact List.mem_map_of_mem hx)
  refine in_round (wp_seq (wp_region_list ?_))
  show wpList E.P #[on, ox] _ [on, ox] a X.w
  rcases run_next_at (P := E.P) X.w on.type I r c c seen ents c hI.iter m2 hold (Nat.le_refl _) with ⟨n1, n2⟩ | ⟨e, n1, w1, n2, n3⟩
  · -- nothing is left
    have hall : ∀ b ∈ bs, seen.contains b = true := by
      intro b hb
      rw [← m5] at hb
      obtain ⟨e, he, rfl⟩ := List.mem_map.1 hb
      cases hc : seen.contains e.born with
      | true => rfl
      | false =>
        have : e ∈ (leftOf ents seen).toList := by
          simp only [leftOf, Array.toList_filter, List.mem_filter, hc, Bool.not_false, and_true]
          exact he
        have h0 : (leftOf ents seen).toList = [] := List.eq_nil_of_length_eq_zero (by simpa using n1)
        rw [h0] at this; cases this
    rw [finM_seen hI.len hall] at hq
    have hrun1 : (execOp a.eval on).run E.P X.w = .ok (.value (.tuple #[.bool false])) X.w := by
      simp only [execOp, S.hon.1, Act.eval, hit, Sem.run_bind, n2, Result.andThen_ok, Sem.run_pure]
    refine step_op S.hon.2.2 hrun1 ?_
    rw [S.hon.2.1]
    have s1 := hI.st.put (S.f1 _) S.lt1 (.tuple #[.bool false])
    have hg1 : (a.put (some d1) (.tuple #[.bool false])).tmps.getD d1 undef = .tuple #[.bool false] := by rw [put_get (by rw [hI.st.size]; exact S.lt1), if_pos rfl]
    have hrun2 : (execOp (a.put (some d1) (.tuple #[.bool false])).eval ox).run E.P X.w = .ok (.value (.bool false)) X.w := by
      simp [execOp, S.hox.1, Act.eval, hg1, Instr.extract]
    refine step_op S.hox.2.2 hrun2 ?_
    rw [S.hox.2.1]
    have s2 := s1.put (S.f2 _) S.lt2 (.bool false)
    have hg2 : ((a.put (some d1) (.tuple #[.bool false])).put (some d2) (.bool false)).tmps.getD d2 undef = .bool false := by rw [put_get (by rw [s1.size]; exact S.lt2), if_pos rfl]
    show Exit.then _ _ .normal _ X.w
    refine wp_seq (wp_cond_false hg2 (wp_exit ?_))
    -- the map again
    have H2 := s2.heap.swap (n := n) (o' := .map k v es) hnat rfl ⟨r, ents, c, hI.map, m2, m3, m4, fun i me h => hold me (by simpa using Array.mem_of_getElem? h), fun i j me mf h1 h2 hb => by
      have hn : (ents.toList.map (·.born)).Nodup := by rw [m5]; exact m7
      have g1 : (ents.toList.map (·.born))[i]? = some me.born := by rw [List.getElem?_map, Array.getElem?_toList, h1]; rfl
      have g2 : (ents.toList.map (·.born))[j]? = some mf.born := by rw [List.getElem?_map, Array.getElem?_toList, h2]; rfl
      rw [← hb] at g2
      obtain ⟨l1, _⟩ := List.getElem?_eq_some_iff.1 g1
      exact (List.getElem?_inj l1 hn).1 (g1.trans g2.symm)⟩
    have e : setN (setN hp n (.mapB k v es bs c)) n (.map k v es) = setN hp n (.map k v es) := by rw [setN_eq, setN_eq, setN_eq, List.set_set]
    have H2 : HRep B X (setN hp n (.map k v es)) := by rw [← e]; exact H2
    exact hq _ X ⟨fun t u hl => s2.regs t u (by
      simp only [lk]
      cases hb : Nat.beq it t with
      | false => exact hl
      | true =>
        rw [← Nat.eq_of_beq_eq_true hb, S.frl] at hl
        cases hl), H2, s2.size, s2.defers⟩ (Ext.refl X)
  · -- an entry has come
    obtain ⟨he, hes⟩ : e ∈ ents.toList ∧ seen.contains e.born = false := by
      simp only [leftOf, Array.toList_filter, List.mem_filter, Bool.not_eq_true'] at n1
      exact n1
    have hbn : (ents.toList.map (·.born)).Nodup := by rw [m5]; exact m7
    obtain ⟨p, hp0⟩ := List.getElem?_of_mem he
    have hpe : ents[p]? = some e := by simpa using hp0
    have hpl : p < es.length := by rw [← m3]; exact (Array.getElem?_eq_some_iff.1 hpe).1
    obtain ⟨⟨x, y⟩, hxy⟩ : ∃ z, es[p]? = some z := ⟨_, List.getElem?_eq_getElem hpl⟩
    obtain ⟨me, ck, cv, k1, k2, k3, k4, k5⟩ := m4 p _ hxy
    rw [hpe] at k1
    cases k1
    have hbp : bs[p]? = some e.born := by rw [← m5, List.getElem?_map, hp0]; rfl
    have hpos := nodK_pos hI.nod hxy (eqv_refl 40 kt k S.key x)
    have hrI : r ≠ I := fun e => hI.no n _ hnat rfl (by simp [blkOf, hI.map, Value.blk, e])
    -- the step
    have hrun1 : (execOp a.eval on).run E.P X.w = .ok (.value (.tuple #[.bool true, e.key, e.val])) (ChangeMaps.setBlock w1 I (.mapIter (some r) c (seen.push e.born) c)) := by
      simp only [execOp, S.hon.1, Act.eval, hit, Sem.run_bind, n3, Result.andThen_ok, Sem.run_pure]
    refine step_op S.hon.2.2 hrun1 ?_
    rw [S.hon.2.1]
    obtain ⟨H2, x2⟩ := turn_set hI.st.heap n2 (.mapIter (some r) c (seen.push e.born) c) hI.hI hI.ok hI.no
    have hw2 : (ChangeMaps.setBlock w1 I (.mapIter (some r) c (seen.push e.born) c)).heap = X.w.heap.setIfInBounds I (.mapIter (some r) c (seen.push e.born) c) := by rcases n2 with rfl | rfl <;> rfl
    generalize hW : ChangeMaps.setBlock w1 I (.mapIter (some r) c (seen.push e.born) c) = W2 at H2 x2 hw2
    have s0 : StOk B N ⟨X.ρ, X.Ok, W2⟩ ⟨(it, .dat .opq (.pointer (some ⟨I, 0, none⟩))) :: rl, setN hp n (.mapB k v es bs c)⟩ a := ⟨fun t u hl => Rep_mono x2 _ _ _ (hI.st.regs t u hl), H2, hI.st.size, hI.st.defers⟩
    have hIlt : I < X.w.heap.size := (Array.getElem?_eq_some_iff.1 hI.iter).1
    have hiter2 : W2.heap[I]? = some (.mapIter (some r) c (seen.push e.born) c) := by rw [hw2, Array.getElem?_setIfInBounds, if_pos rfl, if_pos hIlt]
    have hmap2 : W2.heap[r]? = some (.map ents c) := by rw [hw2, Array.getElem?_setIfInBounds, if_neg (Ne.symm hrI)]; exact m2
    have s1 := s0.put (S.f1 _) S.lt1 (.tuple #[.bool true, e.key, e.val])
    have hg1 : (a.put (some d1) (.tuple #[.bool true, e.key, e.val])).tmps.getD d1 undef = .tuple #[.bool true, e.key, e.val] := by rw [put_get (by rw [hI.st.size]; exact S.lt1), if_pos rfl]
    have hrun2 : (execOp (a.put (some d1) (.tuple #[.bool true, e.key, e.val])).eval ox).run E.P W2 = .ok (.value (.bool true)) W2 := by
      simp [execOp, S.hox.1, Act.eval, hg1, Instr.extract]
    refine step_op S.hox.2.2 hrun2 ?_
    rw [S.hox.2.1]
    have s2 := s1.put (S.f2 _) S.lt2 (.bool true)
    have hg2 : ((a.put (some d1) (.tuple #[.bool true, e.key, e.val])).put (some d2) (.bool true)).tmps.getD d2 undef = .bool true := by rw [put_get (by rw [s1.size]; exact S.lt2), if_pos rfl]
    generalize (a.put (some d1) (.tuple #[.bool true, e.key, e.val])).put (some d2) (.bool true) = a2 at s2 hg2
    show Exit.then _ _ .normal _ W2
    refine wp_seq (wp_cond_true hg2 (wp_skip ?_))
    show (Code.block b2 _).wp E.P _ a2 W2
    refine wp_block (wp_seq (wp_region_list ?_))
    show wpList E.P (oe :: l2).toArray _ (oe :: l2) a2 W2
    have hit2 : a2.tmps.getD it undef = .pointer (some ⟨I, 0, none⟩) := opq_val (s2.regs it _ (by simp [lk]))
    have hrun3 : (execOp a2.eval oe).run E.P W2 = .ok (.value (.tuple #[e.key, e.val])) W2 := by
      simp only [execOp, S.hoe.1, Act.eval, hit2, Sem.run_bind, run_entry_at (P := E.P) W2 I r c seen ents c e hiter2 hmap2 he hbn, Result.andThen_ok, Sem.run_pure]
    refine step_op S.hoe.2.2 hrun3 ?_
    rw [S.hoe.2.1]
    have s3 := s2.put2 (d := d3) (u := .tup (.scons (.dat k x) (.scons (.dat v y) .snil))) S.lt3 (v := .tuple #[e.key, e.val])
      ⟨[e.key, e.val], ⟨_, _, rfl, ⟨ck, RepD_mono x2.ok x2.st _ _ _ k2, by rw [k3]⟩, _, _, rfl, ⟨cv, RepD_mono x2.ok x2.st _ _ _ k4, by rw [k5]⟩, rfl⟩, rfl⟩
    -- the rest by the engine, the iterator beside
    have H3 := s3.heap.mask (M := setN hp n (.mapB k v es bs c)) rfl (fun _ _ h _ => h)
    have hbes : Besd (maskB ⟨X.ρ, X.Ok, W2⟩ (setN hp n (.mapB k v es bs c))) I (.mapIter (some r) c (seen.push e.born) c) :=
      ⟨hiter2, fun ⟨n', o, q1, q2, q3⟩ => hI.no n' o q1 q2 q3, hI.ok⟩
    have s3m : StOk (maskB ⟨X.ρ, X.Ok, W2⟩ (setN hp n (.mapB k v es bs c))) N ⟨X.ρ, X.Ok, W2⟩ ⟨(d3, .tup (.scons (.dat k x) (.scons (.dat v y) .snil))) :: (it, .dat .opq (.pointer (some ⟨I, 0, none⟩))) :: rl, setN hp n (.mapB k v es bs c)⟩ (a2.put (some d3) (.tuple #[e.key, e.val])) := ⟨s3.regs, H3, s3.size, s3.defers⟩
    obtain ⟨hput, hsome⟩ := posM_put (k := k) (v := v) (es := es) (p := p) (x := x) (y := y) hpos hpl
    refine runOps_sound hE (ops := oe :: l2) (base := (d3, .tup (.scons (.dat k x) (.scons (.dat v y) .snil))) :: (it, .dat .opq (.pointer (some ⟨I, 0, none⟩))) :: rl) (B := maskB ⟨X.ρ, X.Ok, W2⟩ (setN hp n (.mapB k v es bs c))) l2 [] _ _ ⟨X.ρ, X.Ok, W2⟩ s3m.regs.ok H3 (by intro t g v h; simp [lkR] at h) List.Pairwise.nil
      (dstsOk_todo S.ds s3.size) s3.defers (S.body es bs x y (.pointer (some ⟨I, 0, none⟩)) hsome) ?_
    intro rs' h' a4 X4 hP hR H4 hsz hdf hx4 hk
    show rest.wp E.P _ a4 X4.w
    have s4 : StOk (maskB ⟨X.ρ, X.Ok, W2⟩ (setN hp n (.mapB k v es bs c))) N X4 ⟨after rs' ((d3, .tup (.scons (.dat k x) (.scons (.dat v y) .snil))) :: (it, .dat .opq (.pointer (some ⟨I, 0, none⟩))) :: rl), h'⟩ a4 := ⟨RegsC.after hP hR, H4, by rw [hsz]; exact s3.size, hdf⟩
    refine execC_sound hE hm rest _ _ a4 X4 _ S.lm s4 hk ?_
    intro e5 s' a5 X5 s5 x5 hk5
    cases e5 with
    | exit id => cases hk5
    | ret => cases hk5
    | normal =>
    obtain ⟨s6, X6, e6, S6, x6, h6⟩ := canonK_sound s5 hk5
    have h6 := Option.some.inj h6
    subst h6
    show InLoop _ _ _ a5 X5.w
    rw [← e6]
    have hlen : X.ρ.length = hp.length := by rw [hI.st.heap.len, setN_eq, List.length_set]
    have hx26 : Ext ⟨X.ρ, X.Ok, W2⟩ X6 := ExtN.all (by
      show ExtN X.ρ.length _ _
      rw [hlen]
      exact (ExtN.of hx4).trans (x5.trans x6))
    have fin : ∀ (es' : List (k.ty × v.ty)) (bs' : List Nat), StOk (maskB ⟨X.ρ, X.Ok, W2⟩ (setN hp n (.mapB k v es bs c))) N X6 ⟨(it, .dat .opq (.pointer (some ⟨I, 0, none⟩))) :: rl, setN hp n (.mapB k v es' bs' c)⟩ a5 → bs'.length = es'.length → nodK k v es' = true →
        MInv B N n it r I c rl hp X6 a5 (seen.push e.born) es' bs' := by
      intro es' bs' S7 hl' hn'
      have H7 : HRep B X6 (setN hp n (.mapB k v es' bs' c)) := H2.unmask (M := setN hp n (.mapB k v es bs c)) rfl (fun _ _ h _ => h) hx26 S7.heap rfl (fun n o hn _ => .inl hn)
      exact ⟨⟨S7.regs, H7, S7.size, S7.defers⟩, hbes.at' S7.heap, hx26.ρ _ _ hI.map, hI.hI, hbes.ok S7.heap, hbes.no S7.heap, hl', hn'⟩
    cases hst : st (x, y) with
    | true =>
      rw [hst] at S6
      have hself : es.set p (x, y) = es := by
        obtain ⟨hl, hv⟩ := List.getElem?_eq_some_iff.1 hxy
        rw [← hv]
        exact List.set_getElem_self hl
      have h1 := finM_set (S.stays x y hst) hes m7 hbp hxy
      rw [hself] at h1
      exact ih X6 a5 _ _ _ (fin _ _ S6 hI.len hI.nod) (x2.trans hx26) h1 (filt_lt hes (List.mem_of_getElem? hbp))
    | false =>
    rw [hst, cond_false] at S6
    cases hf : f (x, y) with
    | some y' =>
      rw [hf] at S6
      obtain ⟨hput, _⟩ := posM_put (k := k) (v := v) (es := es) (p := p) (x := x) (y := y') hpos hpl
      simp only [hput] at S6
      exact ih X6 a5 _ _ _ (fin _ _ S6 (by rw [List.length_set]; exact hI.len) (nodK_set hI.nod hxy)) (x2.trans hx26) (finM_set hf hes m7 hbp hxy) (filt_lt hes (List.mem_of_getElem? hbp))
    | none =>
      rw [hf] at S6
      simp only [hpos] at S6
      refine ih X6 a5 _ _ _ (fin _ _ S6 (by rw [List.length_eraseIdx, List.length_eraseIdx, hI.len]) (nodK_erase hI.nod)) (x2.trans hx26) (finM_erase hf hes m7 hbp hxy) ?_
      have h1 := filt_lt (bs := bs) hes (List.mem_of_getElem? hbp)
      have h2 := filt_erase (p := fun c => !(seen.push e.born).contains c) bs p
      omega

theorem map_rounds {E : Env} (hE : EnvOk E) (hm : E.P.follows .mixedOrders = true) {k v : GT} {B : Base} {C : Cfg} {N n it r I c d1 d2 d3 i1 i2 b b2 : Nat} {kt : TypeId} {rl : List (Nat × SV)} {hp : List SO} {f : k.ty × v.ty → Option v.ty} {st : k.ty × v.ty → Bool}
    {on ox oe : Oper} {l2 : List Oper} {rest : Code} {slots : List Nat} (S : RCode E C N n it c d1 d2 d3 kt rl hp f st on ox oe l2 rest slots) {Q : Exit → Act → World → Prop} {X0 : HS} {final : List (k.ty × v.ty)}
    (hq : ∀ a' X', StOk B N X' ⟨rl, setN hp n (.map k v final)⟩ a' → Ext X0 X' → Q (.exit b) a' X'.w) :
    ∀ (m : Nat) (X : HS) (a : Act) (seen : Array Nat) (es : List (k.ty × v.ty)) (bs : List Nat), MInv B N n it r I c rl hp X a seen es bs → Ext X0 X → finM f seen bs es = final → (bs.filter fun b => !seen.contains b).length ≤ m →
      InLoop E.P (.seq (.region i1 #[on, ox] false) (.seq (.cond (.tmp d2) .skip (.exit b)) (.block b2 (.seq (.region i2 (oe :: l2).toArray false) rest)))) Q a X.w := by
  intro m
  induction m with
  | zero =>
    intro X a seen es bs hI hx hfin hl
    exact map_round hE hm S hI (fun a' X' h1 h2 => hq a' X' (by rw [← hfin]; exact h1) (hx.trans h2)) (fun X' a' seen' es' bs' _ _ _ hlt => by omega)
  | succ m ih =>
    intro X a seen es bs hI hx hfin hl
    exact map_round hE hm S hI (fun a' X' h1 h2 => hq a' X' (by rw [← hfin]; exact h1) (hx.trans h2)) (fun X' a' seen' es' bs' hI' hx' hf' hlt => ih X' a' seen' es' bs' hI' (hx.trans hx') (hf'.trans hfin) (by omega))

/-- A range over a map: the region that begins it, and its rounds. -/
theorem map_range {E : Env} (hE : EnvOk E) (hm : E.P.follows .mixedOrders = true) {k v : GT} {B : Base} {C : Cfg} {N n it d1 d2 d3 i0 i1 i2 b b2 m : Nat} {kt t kt' vt : TypeId} {rl : List (Nat × SV)} {hp : List SO} {f : k.ty × v.ty → Option v.ty} {st : k.ty × v.ty → Bool}
    {o0 on ox oe : Oper} {l0 l2 : List Oper} {rest : Code} {slots : List Nat} (S : ∀ c, RCode E C N n it c d1 d2 d3 kt rl hp f st on ox oe l2 rest slots) {Q : Exit → Act → World → Prop}
    (ho0 : o0.op = .range t (.tmp m) ∧ o0.dst = some it ∧ o0.guard = none) (hit : it < N) (ht : E.P.underlying t = some (.map kt' vt)) (hd0 : dstsOk N l0 = true)
    {rg : List (Nat × SV)} {hp0 : List SO} {X : HS} {a : Act} {rs0 : List Rc} {es : List (k.ty × v.ty)} (hs : StOk B N X ⟨rg, hp0⟩ a) (r0 : runOps E (l0 ++ [o0]) rg l0 [] hp0 (fun rs h => some (rs, h)) = some (rs0, hp))
    (q1 : lk (after rs0 rg) m = some (.mp n)) (q2 : nth hp n = some (.map k v es)) (hnod : nodK k v es = true) (hrl : ∀ t u, lk rl t = some u → lk (after rs0 rg) t = some u)
    (hq : ∀ a' X', StOk B N X' ⟨rl, setN hp n (.map k v (overM f es))⟩ a' → Ext X X' → Q .normal a' X'.w) :
    (Code.seq (.region i0 (l0 ++ [o0]).toArray false) (.block b (.loop (.seq (.region i1 #[on, ox] false) (.seq (.cond (.tmp d2) .skip (.exit b)) (.block b2 (.seq (.region i2 (oe :: l2).toArray false) rest))))))).wp E.P Q a X.w := by
  refine wp_seq (wp_region_list ?_)
  have main := runOps_tail hE (ops := l0 ++ [o0]) (B := B) (tail := [o0]) (Q := Exit.then ((Code.block b (.loop (.seq (.region i1 #[on, ox] false) (.seq (.cond (.tmp d2) .skip (.exit b)) (.block b2 (.seq (.region i2 (oe :: l2).toArray false) rest)))))).wp E.P Q) Q) l0 [] hp0 a X hs.regs.ok hs.heap (by intro t g v h; simp [lkR] at h) List.Pairwise.nil
    (dstsOk_todo hd0 hs.size) hs.defers r0 (by
      intro rs' h' a1 X1 hP hR H1 hsz hdf hx1 hk'
      obtain ⟨rfl, rfl⟩ := Prod.mk.inj (Option.some.inj hk')
      have hC := RegsC.after hP hR
      obtain ⟨r, ents, clock, m1, m2, m3, m4, m5, m6⟩ := H1.obj n _ q2
      obtain ⟨mv, m7, m8, _⟩ := hC m _ q1
      rw [m1] at m7
      cases m7
      have hev : a1.tmps.getD m undef = .map (some r) := by simpa using m8
      have hrun : (execOp a1.eval o0).run E.P X1.w = .ok (.value (.pointer (some ⟨X1.w.heap.size, 0, none⟩))) (X1.w.alloc (.mapIter (some r) clock #[] clock)) := by
        simp only [execOp, ho0.1, Act.eval, hev, Sem.run_bind, run_range_map (P := E.P) X1.w t kt' vt r ents clock ht m2, Result.andThen_ok, Sem.run_pure]
      refine step_op ho0.2.2 hrun ?_
      rw [ho0.2.1]
      have key : ∀ b : Nat, b < X1.w.heap.size → (X1.w.alloc (.mapIter (some r) clock #[] clock)).heap[b]? = X1.w.heap[b]? := fun b hb => by
        show (X1.w.heap.push _)[b]? = X1.w.heap[b]?
        rw [Array.getElem?_push, if_neg (by omega)]
      obtain ⟨H2, x2⟩ := H1.world (w' := X1.w.alloc (.mapIter (some r) clock #[] clock)) rfl rfl rfl (by rw [World.size_alloc]; omega) (fun b hb => key b (H1.okLt b hb)) (fun n o b hn hl hb => key b (H1.lt hn hl hb)) (fun b hb _ => key b (Nat.lt_of_lt_of_le hb H1.size))
      have hrlt : r < X1.w.heap.size := (Array.getElem?_eq_some_iff.1 m2).1
      have H3 := H2.swap (n := n) (o' := .mapB k v es (ents.toList.map (·.born)) clock) q2 rfl ⟨r, ents, m1, by rw [← m2]; exact key r hrlt, m3, fun i e hi => by
        obtain ⟨me, ck, cv, k1, k2, k3, k4, k5⟩ := m4 i e hi
        exact ⟨me, ck, cv, k1, RepD_mono x2.ok x2.st _ _ _ k2, k3, RepD_mono x2.ok x2.st _ _ _ k4, k5⟩, rfl, fun b hb => by
        obtain ⟨e, he, rfl⟩ := List.mem_map.1 hb
        obtain ⟨i, hi⟩ := List.getElem?_of_mem he
        exact m5 i e (by simpa using hi), by
        rw [List.Nodup, List.pairwise_map, List.pairwise_iff_getElem]
        intro i j hi hj hij e
        have := m6 i j ents.toList[i] ents.toList[j] (by simp at hi; simp [hi]) (by simp at hj; simp [hj]) e
        omega⟩
      have hI : MInv B N n it r X1.w.heap.size clock rl h' ⟨X1.ρ, X1.Ok, X1.w.alloc (.mapIter (some r) clock #[] clock)⟩ (a1.put (some it) (.pointer (some ⟨X1.w.heap.size, 0, none⟩))) #[] es (ents.toList.map (·.born)) := by
        refine ⟨⟨fun t' u' hl => ?_, H3, by rw [put_size', hsz]; exact hs.size, by rw [put_defers']; exact hdf⟩, World.alloc_heap_new _ _, m1, H1.size, fun h => ?_, fun n' o hn hl hb => ?_, by simp [m3], hnod⟩
        · rw [put_get (by rw [hsz, hs.size]; exact hit)]
          simp only [lk] at hl
          cases hb : Nat.beq it t' with
          | true =>
            rw [hb] at hl
            simp only [cond_true, Option.some.injEq] at hl
            subst hl
            rw [if_pos (Nat.eq_of_beq_eq_true hb).symm]
            exact ⟨_, ⟨rfl, rfl⟩, rfl⟩
          | false =>
            rw [hb] at hl
            rw [if_neg (fun e => by subst e; simp at hb)]
            exact Rep_mono x2 _ _ _ (hC t' u' (hrl t' u' hl))
        · have := H1.okLt _ h
          omega
        · have := H3.lt hn hl hb
          rcases nth_setN hn with ⟨rfl, rfl⟩ | ⟨hne, hn'⟩
          · simp only [blkOf, m1, Option.bind_some, Value.blk, Option.some.injEq] at hb
            omega
          · have := H1.lt hn' hl hb
            omega
      show Exit.then _ _ .normal _ _
      refine wp_block (loop_of_in (map_rounds hE hm (S clock) (X0 := ⟨X1.ρ, X1.Ok, X1.w.alloc (.mapIter (some r) clock #[] clock)⟩) (final := overM f es) (fun a' X' h1 h2 => ?_) _ _ _ _ _ _ hI (Ext.refl _) (finM_start (by simp [m3])) (Nat.le_refl _)))
      simp only [Exit.inBlock, if_true]
      exact hq a' X' h1 (hx1.trans (x2.trans h2)))
  simpa using main

theorem enter_ok {B : Base} {X : HS} {h : List SO} (H : HRep B X h) {args : List SV} {vals : List Value} (ha : RepL X args vals) {N : Nat} (hle : args.length ≤ N) :
    StOk B N X ⟨initR args 0, h⟩ { tmps := vals.toArray ++ Array.replicate (N - vals.toArray.size) undef, defers := [] } := by
  have hlen := RepL_len ha
  refine ⟨?_, H, by simp; omega, rfl⟩
  intro t v hl
  obtain ⟨i, h1, h2⟩ := initR_lk args 0 hl
  obtain ⟨x, h3, h4⟩ := RepL_at ha h2
  rw [Nat.zero_add] at h1
  subst h1
  have : (vals.toArray ++ Array.replicate (N - vals.toArray.size) undef).getD t undef = x := by
    have ht : t < vals.length := (List.getElem?_eq_some_iff.1 h3).1
    rw [Array.getD_eq_getD_getElem?, Array.getElem?_append_left (by simpa using ht)]
    simp [h3]
  simp only at this ⊢
  rw [this]
  exact h4

/-! ### Pieces of a code -/

def codeL : Code → Code
  | .seq a _ => a
  | .block _ a => a
  | .loop a => a
  | c => c
def codeR : Code → Code
  | .seq _ b => b
  | c => c
def opsR : Code → List Oper
  | .region _ ops _ => ops.toList
  | _ => []
def atO (l : List Oper) (i : Nat) : Oper := (l[i]?).getD ⟨none, .move (.tmp 0), 0, "", #[], none⟩

/-- A function without results has ended. -/
theorem ret_unit {P : Program} {fn : Func} {R : Ending → World → Prop} {a : Act} {w : World} (h0 : fn.results.toList = []) (hd : a.defers = []) (hR : R (.returned (.tuple #[])) w) : bodyPost P fn R .normal a w := by
  refine ⟨hd, _, results_run (val := fun _ => undef) (fun rv h => by rw [h0] at h; cases h), ?_⟩
  rw [h0]
  exact hR

theorem ret_unit' {P : Program} {fn : Func} {R : Ending → World → Prop} {a : Act} {w : World} (h0 : fn.results.toList = []) (hd : a.defers = []) (hR : R (.returned (.tuple #[])) w) : bodyPost P fn R .ret a w :=
  ret_unit (P := P) (R := R) h0 hd hR

/-- The end of a function of states. -/
theorem end_retB {B : Base} {X : HS} {h' : List SO} {v : SV} {val : Value} {Fo : ShS} {kd kw : List (Nat × List Nat × GT)} {n0 b0 : Nat} {y : Fo.ty} (H : HRep B X h') (hρ : X.ρ[0]? = some (.pointer (some ⟨b0, 0, none⟩))) (hv : Rep X v .val [val])
    (hk : retB kd kw n0 Fo v h' = some y) : ∃ X', X'.w = X.w ∧ ExtN n0 X X' ∧ HRep B X' (Fo.enc y).heap ∧ ∀ u, (Fo.enc y).regs = [(0, u)] → Rep X' u .val [val] := by
  have S : StOk B 2 X ⟨[(0, v), (1, .box 0 [] 0)], h'⟩ ⟨#[val, .pointer (some ⟨b0, 0, none⟩)], []⟩ := by
    refine ⟨?_, H, rfl, rfl⟩
    intro t u hl
    simp only [lk] at hl
    cases hb : Nat.beq 0 t with
    | true =>
      rw [hb] at hl
      simp only [cond_true, Option.some.injEq] at hl
      subst hl
      rw [← Nat.eq_of_beq_eq_true hb]
      exact hv
    | false =>
      rw [hb] at hl
      simp only [cond_false] at hl
      cases hb1 : Nat.beq 1 t with
      | true =>
        rw [hb1] at hl
        simp only [cond_true, Option.some.injEq] at hl
        subst hl
        rw [← Nat.eq_of_beq_eq_true hb1]
        exact ⟨b0, hρ, rfl⟩
      | false => rw [hb1] at hl; cases hl
  obtain ⟨s', X'', ew, S', EX, hk'⟩ := canonK_sound S hk
  have hs := ShS.dec_enc Fo _ y hk'
  refine ⟨X'', ew, EX, by rw [← hs]; exact S'.heap, fun u hu => ?_⟩
  rw [← hs] at hu
  have h0 : lk s'.regs 0 = some u := by rw [hu]; simp [lk]
  exact S'.regs 0 u h0

end Go.Eng
