/- The engine, part 39: an append, of which the shorter slice is used again. -/
import Derived.Test.YtondjihmmjjinaaE38
namespace Go.Eng
open Go
set_option linter.unusedVariables false
set_option linter.unusedSimpArgs false

/-- What an append to an own list comes to: the list moves (q), or it stays beside the longer one; when the longer one is given up, the shorter one is there again. -/
def Keep2 (B : Base) (X : HS) (h : List SO) (g : GT) (n : Nat) (xs ys : List g.ty) (run : Result Value) : Prop :=
  ∃ (X' : HS) (val : Value) (q : Bool), run = .ok val X'.w ∧ Ext X X' ∧ HRep B X' ((bif q then setN h n .dead else h) ++ [.arr g (xs ++ ys)]) ∧ Rep X' (.own h.length) .val [val] ∧
    ∀ (Z : HS) (hz : List SO), Ext X' Z → HRep B Z hz → nth hz h.length = some (.arr g (xs ++ ys)) → nth hz n = some (bif q then .dead else .arr g xs) → HRep B Z (setN (setN hz h.length .dead) n (.arr g xs))

theorem keep_of_out {B : Base} {X : HS} {h : List SO} {g : GT} {n : Nat} {xs ys : List g.ty} {run : Result Value} (hn : nth h n = some (.arr g xs))
    (ho : Out B X (fun v h' => some (v, h')) (SV.own h.length, h ++ [.arr g (xs ++ ys)]) run) : Keep2 B X h g n xs ys run := by
  obtain ⟨X', h', v, val, h1, h2, h3, h4, h5⟩ := ho
  obtain ⟨rfl, rfl⟩ := Prod.mk.inj (Option.some.inj h5)
  refine ⟨X', val, false, h1, h2, h3, h4, fun Z hz hx HZ k1 k2 => ?_⟩
  have hne : h.length ≠ n := by
    rw [nth_eq] at hn
    have := (List.getElem?_eq_some_iff.1 hn).1
    omega
  have HD := HZ.drop h.length
  have e : setN (setN hz h.length .dead) n (.arr g xs) = setN hz h.length .dead := by
    rw [setN_eq, setN_eq]
    apply List.ext_getElem?
    intro i
    rw [List.getElem?_set, List.getElem?_set]
    by_cases hi : n = i
    · subst hi
      rw [if_pos rfl, if_neg hne]
      rw [nth_eq] at k2
      have hl := (List.getElem?_eq_some_iff.1 k2).1
      simp only [List.length_set, hl, if_true, k2, cond_false]
    · rw [if_neg hi]
  rw [e]
  exact HD

theorem appendKeep {P : Program} {t u ty e e' : TypeId} {B : Base} {X : HS} {h : List SO} {g : GT} {n : Nat} {xs ys : List g.ty} {sv xv : Value} {x : SV} (H : HRep B X h) (hnx : nth h n = some (.arr g xs)) (hs : Rep X (.own n) .val [sv]) (hx : Rep X x .val [xv]) (hys : listV h x g = some ys)
    (ht : P.underlying t = some (.slice e)) (hu : P.underlying u = some (.slice e')) (he : elemOK P e g = true) (hsm : smallTy P e = true) (hz : zeroOK P e g = true) (hl : xs.length + ys.length ≤ LIM) :
    Keep2 B X h g n xs ys ((Builtin.append_ #[t, u] ty #[sv, xv]).run P X.w) := by
  obtain ⟨e1, e2⟩ := elemOK_spec he
  obtain ⟨xb, xc, news, rfl, hn, hE⟩ := listV_cells (P := P) H e2 hx hys
  have hnil : Elems X g [] [] := ⟨by simp, by simp⟩
  obtain ⟨v, hv1, hv2, _⟩ := hs
  cases hv2
  have hk : (fun v h' => some (v, h')) (SV.own h.length) (h ++ [SO.arr g (xs ++ ys)]) = some (SV.own h.length, h ++ [SO.arr g (xs ++ ys)]) := rfl
  have HD := H.drop n
  have hdl : (setN h n SO.dead).length = h.length := by rw [setN_eq]; simp
  rcases H.obj n _ hnx with ⟨base, k1, k2⟩ | ⟨bb, o, cap, cells, T, fz, k1, k2, k3, k4, k5, k6, k7, k8⟩
  · rw [k1] at hv1
    cases hv1
    subst k2
    refine keep_of_out hnx ?_
    by_cases h0 : ys.length = 0
    · have : ys = [] := List.eq_nil_of_length_eq_zero h0
      subst this
      have hnews : news = [] := List.eq_nil_of_length_eq_zero (by simpa using hE.len)
      subst hnews
      have hrun := run_app_fits (P := P) (ty := ty) ht hu e1 X.w X.w base xb 0 0 0 xc [] (by omega) hn (by cases base <;> simp [storeCells])
      refine emptyObj (g := g) (K := fun v h' => some (v, h')) (base := base) H h rfl ?_ rfl
      simpa using hrun
    · have := grows_obj (P := P) (t := t) (u := u) (ty := ty) (xs := []) (ys := ys) (olds := []) (base := base) (sCap := 0) H rfl ht hu he hsm hz
        (by cases base <;> simp [Builtin.firstCells, loadCells, loadCellsFrom]) hn hnil hE (by simp; omega) (by simpa using hl) (K := fun v h' => some (v, h')) rfl
      simpa using this
  · rw [k1] at hv1
    cases hv1
    have hbk : blkOf X n = some bb := by
      obtain ⟨c, rfl⟩ : ∃ c, cap = c + 1 := ⟨cap - 1, by omega⟩
      simp [blkOf, k1, Value.blk]
    by_cases hfits : List.length xs + List.length ys ≤ cap
    · -- in place
      have hmul : (List.length xs + List.length ys) * g.size ≤ cap * g.size := Nat.mul_le_mul_right _ hfits
      rw [Nat.add_mul] at hmul
      have hst := run_storeC (P := P) bb (o + List.length xs * g.size) T fz news 0 cells X.w k3 k4 (by rw [hE.len]; omega) hE.one
      simp only [Nat.add_zero] at hst
      have hrun := run_app_fits (P := P) (ty := ty) ht hu e1 X.w _ (some ⟨bb, o, none⟩) xb (List.length xs) cap (List.length ys) xc news hfits hn
        (by simp only [add_none]; exact hst)
      have hown := H.ownNew n _ bb hnx rfl hbk
      have hsep := H.sep n _ hnx rfl bb hbk
      have hoth : ∀ m o1, nth (setN h n SO.dead) m = some o1 → o1.live = true → blkOf X m ≠ some bb := by
        intro m o1 hm l1 b1
        rcases nth_setN hm with ⟨_, rfl⟩ | ⟨hne, h1⟩
        · cases l1
        · exact hne (H.inj m n o1 _ h1 hnx l1 rfl bb b1 hbk)
      obtain ⟨H1, E1⟩ := HD.world (w' := X.w.setRow bb (ow cells.toList (o + List.length xs * g.size) news).toArray) rfl rfl rfl (Nat.le_of_eq (setRow_size _ _ _).symm)
        (fun k hk => setRow_ne _ _ _ _ (fun e => hsep (e ▸ hk))) (fun m o1 k hm l1 b1 => setRow_ne _ _ _ _ (fun e => hoth m o1 hm l1 (e ▸ b1)))
        (fun k hk hno => setRow_ne _ _ _ _ (fun e => by
          subst e
          rcases hown with h1 | h1
          · exact hno h1
          · omega))
      have hρ : X.ρ.length = (setN h n SO.dead).length := by rw [hdl]; exact H.len
      have hfit2 : o + List.length xs * g.size + news.length ≤ cells.toList.length := by
        have hq : cells.toList.length = cells.size := Array.length_toList
        rw [hE.len, hq]; omega
      obtain ⟨H2, E2⟩ := H1.adopt (val := .slice (some ⟨bb, o, none⟩) (List.length xs + List.length ys) cap) (o := .arr g (xs ++ ys))
        (fun b _ hb => by
          obtain ⟨c, rfl⟩ : ∃ c, cap = c + 1 := ⟨cap - 1, by omega⟩
          simp only [Value.blk, Option.some.injEq] at hb
          subst hb
          exact ⟨hsep, hown, hoth⟩)
        (.inr ⟨bb, o, cap, _, T, fz, by rw [List.length_append]; exact new_rep hρ _, k2, setRow_at _ _ _ _ _ _ k3, by rw [List.size_toArray, ow_len hfit2, Array.length_toList]; exact k4,
          by rw [List.length_append]; exact hfits, by rw [List.size_toArray, ow_len hfit2, Array.length_toList]; exact k6, k7, by
          intro i y hi
          simp only [List.getElem?_toArray]
          by_cases hlt : i < List.length xs
          · rw [List.getElem?_append_left hlt] at hi
            obtain ⟨cs, q1, q2⟩ := k8 i y hi
            have hl' := RepD_len g y cs q1
            refine ⟨cs, RepD_mono E1.ok E1.st g y cs q1, fun j v hj => ?_⟩
            have hjl : j < g.size := by rw [← hl']; exact (List.getElem?_eq_some_iff.1 hj).1
            have hm2 := Nat.mul_le_mul_right g.size (show i + 1 ≤ List.length xs by omega)
            rw [Nat.add_mul, Nat.one_mul] at hm2
            rw [ow_get hfit2, if_pos (by omega), Array.getElem?_toList]
            exact q2 j v hj
          · rw [List.getElem?_append_right (by omega)] at hi
            obtain ⟨cs, q1, q2⟩ := hE.at' _ y hi
            have hl' := RepD_len g y cs q1
            refine ⟨cs, RepD_mono E1.ok E1.st g y cs q1, fun j v hj => ?_⟩
            have := q2 j v hj
            have hm2 : List.length xs * g.size ≤ i * g.size := Nat.mul_le_mul_right _ (by omega)
            rw [Nat.sub_mul] at this
            have hlt2 := (List.getElem?_eq_some_iff.1 this).1
            rw [ow_get hfit2, if_neg (by omega), if_pos (by omega), ← this]
            congr 1
            omega⟩)
      refine ⟨_, _, true, hrun, E1.trans E2, H2, ⟨_, by rw [← hdl]; exact new_rep hρ _, rfl, rfl⟩, fun Z hz hx2 HZ z1 z2 => ?_⟩
      -- the shorter one again
      have hne : h.length ≠ n := by
        rw [nth_eq] at hnx
        have := (List.getElem?_eq_some_iff.1 hnx).1
        omega
      have ρn : Z.ρ[n]? = some (.slice (some ⟨bb, o, none⟩) (List.length xs) cap) := (E1.trans (E2.trans hx2)).ρ n _ k1
      have ρl : Z.ρ[h.length]? = some (.slice (some ⟨bb, o, none⟩) (List.length xs + List.length ys) cap) := hx2.ρ _ _ (by rw [← hdl]; exact new_rep hρ _)
      have hob := HZ.obj _ _ z1
      have HD2 := HZ.drop h.length
      have hdn : nth (setN hz h.length .dead) n = some .dead := by
        rw [nth_eq, setN_eq, List.getElem?_set_ne hne, ← nth_eq]; exact z2
      have hbz : blkOf Z n = some bb := by
        obtain ⟨c, rfl⟩ : ∃ c, cap = c + 1 := ⟨cap - 1, by omega⟩
        simp [blkOf, ρn, Value.blk]
      have hbl : blkOf Z h.length = some bb := by
        obtain ⟨c, rfl⟩ : ∃ c, cap = c + 1 := ⟨cap - 1, by omega⟩
        simp [blkOf, ρl, Value.blk]
      refine HD2.revive (n := n) (o := .arr g xs) hdn (fun b _ hb => ?_) ?_
      · rw [hbz] at hb
        cases hb
        refine ⟨HZ.sep _ _ z1 rfl bb hbl, HZ.ownNew _ _ bb z1 rfl hbl, fun m o' hm hlv hbm => ?_⟩
        rcases nth_setN hm with ⟨rfl, rfl⟩ | ⟨hne2, hm'⟩
        · cases hlv
        · exact hne2 (HZ.inj m h.length _ _ hm' z1 hlv rfl bb hbm hbl)
      · rcases hob with ⟨base, j1, j2⟩ | ⟨bb2, o2, cap2, cells2, T2, fz2, j1, j2, j3, j4, j5, j6, j7, j8⟩
        · rw [ρl] at j1
          have : List.length xs + List.length ys = 0 := by
            have := congrArg List.length j2
            simpa using this
          simp only [Option.some.injEq, Value.slice.injEq] at j1
          omega
        · rw [ρl] at j1
          simp only [Option.some.injEq, Value.slice.injEq, Addr.mk.injEq, and_true] at j1
          obtain ⟨⟨rfl, rfl⟩, _, rfl⟩ := j1
          refine .inr ⟨bb, o, cap, cells2, T2, fz2, ρn, j2, j3, j4, k5, j6, j7, ?_⟩
          intro i y hi
          exact j8 i y (by rw [List.getElem?_append_left (List.getElem?_eq_some_iff.1 hi).1]; exact hi)
    · -- a new row
      obtain ⟨olds, o1, o2, o3⟩ := row_cells (R := RepD X.Ok X.w.heap g) (fun y cs r => RepD_len g y cs r) xs (cellAt X.w.heap bb) o (fun i y hy => by
        obtain ⟨cs, r, k⟩ := k8 i y hy
        exact ⟨cs, r, fun j v hj => by simp only [cellAt, k3]; exact k j v hj⟩)
      have ho : (Builtin.firstCells g.size (List.length xs) (.slice (some ⟨bb, o, none⟩) (List.length xs) cap)).run P X.w = .ok olds.toArray X.w :=
        run_firstCells_some X.w g.size _ _ _ _ olds o1 (fun j v hj => by rw [add_none rfl, cell_cellAt]; exact o3 j v hj)
      exact keep_of_out hnx (grows_obj (K := fun v h' => some (v, h')) H rfl ht hu he hsm hz ho hn ⟨o1, o2⟩ hE (by omega) hl rfl)

theorem runOps_tail {E : Env} (hE : EnvOk E) {R : Type} {ops : List Oper} {base : List (Nat × SV)} {B : Base} {k : List Rc → List SO → Option R} {r : R} {Q : Exit → Act → World → Prop} {tail : List Oper} :
    ∀ (l : List Oper) (rs : List Rc) (h : List SO) (a : Act) (X : HS), RegsOk X a (look rs base) → HRep B X h → GIn rs → PW rs → Todo a rs l → a.defers = [] → runOps E ops base l rs h k = some r →
    (∀ rs' h' a' X', PW rs' → RegsOk X' a' (look rs' base) → HRep B X' h' → a'.tmps.size = a.tmps.size → a'.defers = [] → Ext X X' → k rs' h' = some r → wpList E.P ops.toArray Q tail a' X'.w) → wpList E.P ops.toArray Q (l ++ tail) a X.w
  | [], rs, h, a, X, hR, H, _, hP, _, hd, hk, hq => hq rs h a X hP hR H rfl hd (Ext.refl X) hk
  | o :: l, rs, h, a, X, hR, H, hG, hP, hT, hd, hk, hq => by
    simp only [runOps] at hk
    rw [List.cons_append]
    unfold wpList
    split at hk
    · rename_i hg
      rw [if_pos (by simp [Region.wanted, hg])]
      left
      refine op_sound hE H (fun x v hv => opnd_rep hR (by simp) hv) (fun c t x v hv hc => opnd_rep hR (gs := [(c, t)]) (by intro g hg; simp only [List.mem_singleton] at hg; subst hg; exact hc) hv) hk ?_
      intro X' h' v val hx H' hv hk'
      obtain ⟨t1, t2⟩ := hT.tail ⟨clsK E o.op (opnd (look rs base) []), footK E o.op (opnd (look rs base) []) h, o.dst, none, v, h'⟩ rfl val
      refine runOps_tail hE l _ h' _ X' (hR.put (r := ⟨clsK E o.op (opnd (look rs base) []), footK E o.op (opnd (look rs base) []) h, o.dst, none, v, h'⟩) hx hG t1 (by simp) (fun d _ => hv)) H' (hG.cons (by simp)) (hP.cons fun d e => (t1 d e).2) t2 (by rw [put_defers']; exact hd) hk' ?_
      intro rs' h'' a' X'' q0 q1 q2 q3 q4 q6 q5
      exact hq rs' h'' a' X'' q0 q1 q2 (q3.trans put_size') q4 (hx.trans q6) q5
    · rename_i j w hg
      split at hk
      · rename_i t ht
        split at hk
        · rename_i c gs hgc
          cases hds : hasDst rs t with
          | false => rw [hds] at hk; simp at hk
          | true =>
            rw [hds] at hk
            simp only [Bool.not_true, cond_false] at hk
            obtain ⟨c1, c2⟩ := gcOf_sound hR 6 t w c gs hgc
            have hw := wanted_iff (a := a) hg ht
            cases c with
            | true =>
              have hsat := c1.1 rfl
              rw [if_pos (hw.2 hsat)]
              left
              refine op_sound hE H (fun x v hv => opnd_rep hR (c2 rfl) hv) (fun c t x v hv hc => opnd_rep hR (gs := (c, t) :: gs) (by
                intro g hg
                rcases List.mem_cons.1 hg with rfl | hg
                · exact hc
                · exact c2 rfl g hg) hv) hk ?_
              intro X' h' v val hx H' hv hk'
              obtain ⟨t1, t2⟩ := hT.tail ⟨clsK E o.op (opnd (look rs base) gs), footK E o.op (opnd (look rs base) gs) h, o.dst, some (t, w), v, h'⟩ rfl val
              refine runOps_tail hE l _ h' _ X' (hR.put (r := ⟨clsK E o.op (opnd (look rs base) gs), footK E o.op (opnd (look rs base) gs) h, o.dst, some (t, w), v, h'⟩) hx hG t1 (by intro g hg; cases hg; exact hds)
                (fun d _ => ⟨fun _ => hv, fun hne => absurd hsat hne⟩)) H' (hG.cons (by intro g hg; cases hg; exact hds)) (hP.cons fun d e => (t1 d e).2) t2 (by rw [put_defers']; exact hd) hk' ?_
              intro rs' h'' a' X'' q0 q1 q2 q3 q4 q6 q5
              exact hq rs' h'' a' X'' q0 q1 q2 (q3.trans put_size') q4 (hx.trans q6) q5
            | false =>
              have hns : ¬ a.tmps.getD t undef = .bool w := fun e => by have := c1.2 e; cases this
              rw [if_neg (fun e => hns (hw.1 e))]
              obtain ⟨v, hk'⟩ := opK_skip hk
              obtain ⟨t1, t2⟩ := hT.tail ⟨clsK E o.op (opnd (look rs base) gs), footK E o.op (opnd (look rs base) gs) h, o.dst, some (t, w), v, h⟩ rfl undef
              refine runOps_tail hE l _ h _ X (hR.put (r := ⟨clsK E o.op (opnd (look rs base) gs), footK E o.op (opnd (look rs base) gs) h, o.dst, some (t, w), v, h⟩) (Ext.refl X) hG t1 (by intro g hg; cases hg; exact hds)
                (fun d _ => ⟨fun e => absurd e hns, fun _ => rfl⟩)) H (hG.cons (by intro g hg; cases hg; exact hds)) (hP.cons fun d e => (t1 d e).2) t2 (by rw [put_defers']; exact hd) hk' ?_
              intro rs' h'' a' X'' q0 q1 q2 q3 q4 q6 q5
              exact hq rs' h'' a' X'' q0 q1 q2 (q3.trans put_size') q4 q6 q5
        · cases hk
      · cases hk


theorem dstsOk_todo {N : Nat} {l : List Oper} {a : Act} (h : dstsOk N l = true) (hs : a.tmps.size = N) : Todo a [] l := by
  simp only [dstsOk, Bool.and_eq_true, List.all_eq_true] at h
  exact ⟨fun d hd => ⟨by have := h.1 d hd; rw [hs]; simpa [Nat.blt_eq] using this, rfl⟩, h.2⟩

/-- A region with an append, of which the shorter slice is used again. -/
theorem app_region {E : Env} (hE : EnvOk E) {N id : Nat} {ops : List Oper} {l1 l2 : List Oper} {d sl xl : Nat} {t u ty e e' : TypeId} {pos : String} {aft : Array Edge} {g : GT}
    (hops : ops = l1 ++ (⟨some d, .call ⟨.builtin .append, #[.tmp sl, .tmp xl], #[t, u]⟩, ty, pos, aft, none⟩ : Oper) :: l2) (hd1 : dstsOk N l1 = true) (hd2 : dstsOk N l2 = true) (hdN : Nat.blt d N = true)
    (ht : E.P.underlying t = some (.slice e)) (hu : E.P.underlying u = some (.slice e')) (he : elemOK E.P e g = true) (hsm : smallTy E.P e = true) (hz : zeroOK E.P e g = true)
    {B : Base} {X : HS} {rb RA : List (Nat × SV)} {hp : List SO} {a : Act} {Q : Exit → Act → World → Prop} (hs : StOk B N X ⟨rb, hp⟩ a)
    {n m c : Nat} {xs ys : List g.ty} {h1 h3 : List SO} {rs1 : List Rc} {rs2 : Bool → List Rc} {h2 Hq : Bool → List SO}
    (r1 : runOps E ops rb l1 [] hp (fun rs h => some (rs, h)) = some (rs1, h1))
    (q1 : lk (after rs1 rb) sl = some (.own n)) (q2 : lk (after rs1 rb) xl = some (.own m)) (q3 : nth h1 n = some (.arr g xs)) (q4 : listV h1 (.own m) g = some ys) (hl : xs.length + ys.length ≤ LIM)
    (hc : h1.length = c) (hRA : RA = (d, .own c) :: after rs1 rb) (hH : ∀ q, Hq q = (bif q then setN h1 n .dead else h1) ++ [.arr g (xs ++ ys)])
    (r2 : ∀ q : Bool, runOps E ops RA l2 [] (Hq q) (fun rs h => some (rs, h)) = some (rs2 q, h2 q))
    (p1 : ∀ q, nth (h2 q) c = some (.arr g (xs ++ ys))) (p2 : ∀ q, nth (h2 q) n = some (bif q then .dead else .arr g xs)) (p3 : ∀ q, setN (setN (h2 q) c .dead) n (.arr g xs) = h3)
    (hq : ∀ q a' X', StOk B N X' ⟨after (rs2 q) RA, h3⟩ a' → Ext X X' → Q .normal a' X'.w) : (Code.region id ops.toArray false).wp E.P Q a X.w := by
  subst hc
  subst hRA
  apply wp_region_list
  have hdlt : d < N := by simpa [Nat.blt_eq] using hdN
  have main := runOps_tail hE (ops := ops) (B := B) (Q := Q) (tail := (⟨some d, .call ⟨.builtin .append, #[.tmp sl, .tmp xl], #[t, u]⟩, ty, pos, aft, none⟩ : Oper) :: l2) l1 [] hp a X hs.regs.ok hs.heap (by intro t g v h; simp [lkR] at h) List.Pairwise.nil
    (dstsOk_todo hd1 hs.size) hs.defers r1 (by
      intro rs' h' a1 X1 hP hR H1 hsz hdf hx hk'
      obtain ⟨rfl, rfl⟩ := Prod.mk.inj (Option.some.inj hk')
      have hC := RegsC.after hP hR
      have hsv := hC sl _ q1
      have hxv := hC xl _ q2
      unfold wpList
      rw [if_pos (by simp [Region.wanted])]
      left
      obtain ⟨X2, val, q, k1, k2, k3, k4, k5⟩ := appendKeep (P := E.P) (ty := ty) H1 q3 hsv hxv q4 ht hu he hsm hz hl
      unfold Oper.wp
      have hrun : execOp a1.eval (⟨some d, .call ⟨.builtin .append, #[.tmp sl, .tmp xl], #[t, u]⟩, ty, pos, aft, none⟩ : Oper) = (do pure (.value (← Builtin.append_ #[t, u] ty (#[Operand.tmp sl, Operand.tmp xl].map a1.eval)))) := by
        simp [execOp, resolve, invoke, builtin]
      have harr : #[Operand.tmp sl, Operand.tmp xl].map a1.eval = #[a1.tmps.getD sl undef, a1.tmps.getD xl undef] := by simp [Act.eval]
      rw [hrun, harr]
      simp only [Sem.run_bind, k1, Result.andThen_ok, Sem.run_pure, Oper.upon]
      have hRA : RegsC X2 (a1.put (some d) val) ((d, .own h'.length) :: after rs' rb) := by
        intro t' v' hl'
        have hds : d < a1.tmps.size := by rw [hsz, hs.size]; exact hdlt
        rw [put_get hds]
        simp only [lk] at hl'
        cases hb : Nat.beq d t' with
        | true =>
          rw [hb] at hl'
          simp only [cond_true, Option.some.injEq] at hl'
          subst hl'
          rw [if_pos (Nat.eq_of_beq_eq_true hb).symm]
          exact k4
        | false =>
          rw [hb] at hl'
          rw [if_neg (fun e => by subst e; simp at hb)]
          exact Rep_mono k2 _ _ _ (hC t' v' hl')
      have second := runOps_sound hE (ops := ops) (base := (d, .own h'.length) :: after rs' rb) (B := B) (Q := Q) l2 [] _ (a1.put (some d) val) X2 hRA.ok k3 (by intro t g v h; simp [lkR] at h) List.Pairwise.nil
        (dstsOk_todo hd2 (by rw [put_size', hsz]; exact hs.size)) (by rw [put_defers']; exact hdf) (by rw [← hH q]; exact r2 q) (by
          intro rs'' h'' a2 X3 hP2 hR2 H3 hsz2 hdf2 hx2 hk2
          obtain ⟨rfl, rfl⟩ := Prod.mk.inj (Option.some.inj hk2)
          have H4 := k5 X3 (h2 q) hx2 H3 (p1 q) (p2 q)
          rw [p3 q] at H4
          exact hq q a2 X3 ⟨RegsC.after hP2 hR2, H4, by rw [hsz2, put_size', hsz]; exact hs.size, hdf2⟩ (hx.trans (k2.trans hx2)))
      exact second)
  rw [← hops] at main
  simpa using main

theorem lk_none {α : Type} : ∀ {F : List (Nat × α)} {t : Nat}, (∀ k ∈ F.map (·.1), k ≠ t) → lk F t = none
  | [], t, _ => rfl
  | e :: F, t, h => by
    have h1 : Nat.beq e.1 t = false := by
      rw [Bool.eq_false_iff]; intro hb
      exact h e.1 (by simp) (Nat.eq_of_beq_eq_true hb)
    simp only [lk, h1, cond_false]
    exact lk_none (fun k hk => h k (by simp only [List.map_cons, List.mem_cons]; exact .inr hk))

def findR (id : Nat) : List Code → Option (Array Oper × Bool)
  | [] => none
  | .region i ops draw :: l => bif Nat.beq i id then some (ops, draw) else findR id l
  | _ :: l => findR id l

def idsR : List Code → List Nat
  | [] => []
  | .region i _ _ :: l => i :: idsR l
  | _ :: l => idsR l

theorem idsR_mem : ∀ {l : List Code} {id : Nat} {ops : Array Oper} {draw : Bool}, Code.region id ops draw ∈ l → id ∈ idsR l
  | c :: l, id, ops, draw, h => by
    rcases List.mem_cons.1 h with h | h
    · subst h; simp [idsR]
    · have := idsR_mem h
      cases c <;> simp [idsR, this]

theorem findR_mem : ∀ {l : List Code} {id : Nat} {ops : Array Oper} {draw : Bool}, nodupB (idsR l) = true → Code.region id ops draw ∈ l → findR id l = some (ops, draw)
  | c :: l, id, ops, draw, hn, h => by
    rcases List.mem_cons.1 h with h' | h'
    · subst h'; simp [findR]
    · clear h
      cases c with
      | region i o d =>
        simp only [idsR] at hn
        obtain ⟨n1, n2⟩ := nodupB_cons hn
        have hm := idsR_mem h'
        have : Nat.beq i id = false := by
          rw [Bool.eq_false_iff]; intro hb
          have := Nat.eq_of_beq_eq_true hb
          subst this
          exact n1 hm
        simp only [findR, this, cond_false]
        exact findR_mem n2 h'
      | _ =>
        simp only [idsR] at hn
        simp only [findR]
        exact findR_mem hn h'

def noSlots (l : List Nat) (rg : List (Nat × SV)) : Bool := l.all fun t => (lk rg t).isNone

end Go.Eng
