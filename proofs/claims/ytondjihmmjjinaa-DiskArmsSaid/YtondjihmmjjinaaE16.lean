/- The engine, part 16: an operation's step is one step, whatever comes behind; on what it depends. -/
import Derived.Test.YtondjihmmjjinaaE15
namespace Go.Eng
open Go
set_option linter.unusedVariables false
set_option linter.unusedSimpArgs false

/-- The step alone. -/
def pair : Kont (SV × List SO) := fun v h => some (v, h)

theorem bind_pair {R : Type} (v : SV) (h : List SO) (K : Kont R) : ((pair v h).bind fun p => K p.1 p.2) = K v h := rfl

theorem cond_bind {α β : Type} (c : Bool) (x : Option α) (f : α → Option β) : (bif c then x else none).bind f = bif c then x.bind f else none := by cases c <;> rfl
theorem cond_bind' {α β : Type} (c : Bool) (x : Option α) (f : α → Option β) : (bif c then none else x).bind f = bif c then none else x.bind f := by cases c <;> rfl
theorem asrt_bind {α β : Type} (g c : Bool) (x : Option α) (f : α → Option β) : (asrt g c x).bind f = asrt g c (x.bind f) := by unfold asrt; exact cond_bind _ _ _

section
variable {R : Type} {P : Program} {h : List SO} {K : Kont R}

theorem loadK_nat {t : TypeId} {gc : Bool} {p : SV} : loadK P t gc p h K = (loadK P t gc p h pair).bind fun q => K q.1 q.2 := by
  unfold loadK
  split
  · simp only [cond_bind, bind_pair]
  · split
    · simp only [cond_bind]
      split
      · simp only [cond_bind, bind_pair]
      · rfl
    · rfl
  · split
    · split
      · rw [Option.bind_assoc]
        congr 1
        funext x
        simp only [cond_bind]
        split
        · simp only [cond_bind, bind_pair]
        · rfl
      · rfl
    · simp only [cond_bind, asrt_bind]
      split
      · simp only [cond_bind, bind_pair]
      · rfl
    · split
      · rw [Option.bind_assoc]
        congr 1
        funext x
        simp only [cond_bind]
        split
        · simp only [cond_bind, bind_pair]
        · rfl
      · rfl
    · rfl
  · rfl

theorem storeK_nat {t : TypeId} {p v : SV} : storeK P t p v h K = (storeK P t p v h pair).bind fun q => K q.1 q.2 := by
  unfold storeK
  split
  · split
    · simp only [cond_bind]
      split <;> simp [bind_pair]
    · rfl
  · split
    · split
      · rw [Option.bind_assoc]
        congr 1
        funext x
        simp only [cond_bind]
        split
        · split
          · simp only [cond_bind', bind_pair]
          · rfl
        · rfl
      · rfl
    · simp only [cond_bind, asrt_bind]
      split
      · rfl
      · rfl
    · split
      · rw [Option.bind_assoc]
        congr 1
        funext x
        simp only [cond_bind]
        split
        · split
          · simp only [cond_bind', bind_pair]
          · rfl
        · rfl
      · rfl
    · rfl
  · rfl

theorem storeN_nat {t : TypeId} {p v : SV} : storeN P t p v h K = (storeN P t p v h pair).bind fun q => K q.1 q.2 := by
  unfold storeN
  split
  · exact storeK_nat
  · split
    · exact storeK_nat
    · rw [cond_bind]
      congr 1
      split
      · rw [asrt_bind]
        congr 1
        exact storeK_nat
      · rfl

theorem fieldAddrK_nat {t : TypeId} {p : SV} {f : Nat} : fieldAddrK P t p f h K = (fieldAddrK P t p f h pair).bind fun q => K q.1 q.2 := by
  unfold fieldAddrK
  split
  · split
    · split
      · simp only [cond_bind']
        split
        · simp only [bind_pair]
        · simp only [bind_pair]
        · split
          · split
            · simp only [cond_bind, bind_pair]
            · rfl
          · rfl
        · rfl
      · rfl
    · rfl
  · rfl

theorem fieldK_nat {t : TypeId} {v : SV} {f : Nat} : fieldK P t v f h K = (fieldK P t v f h pair).bind fun q => K q.1 q.2 := by
  unfold fieldK
  repeat' (first | rfl | split)
  all_goals simp only [cond_bind, bind_pair]

theorem pickI_bind {A S : Type} {gc : Bool} {i : Int} {f : Nat → Option A} {g : A → Option S} : ∀ (m j : Nat), (pickI gc i f m j).bind g = pickI gc i (fun k => (f k).bind g) m j
  | 0, j => asrt_bind _ _ _ _
  | m + 1, j => by
    unfold pickI
    cases decide (i = (j : Int)) with
    | true => rfl
    | false => exact pickI_bind m (j + 1)

theorem sliceAddrK_nat {t : TypeId} {gc : Bool} {x i : SV} : sliceAddrK P t gc x i h K = (sliceAddrK P t gc x i h pair).bind fun q => K q.1 q.2 := by
  unfold sliceAddrK
  split
  · split
    · rw [cond_bind, Option.bind_assoc]
      rfl
    · split
      · simp only [cond_bind, asrt_bind, bind_pair]
      · simp only [cond_bind, asrt_bind, bind_pair]
      · rfl
    · split
      · simp only [asrt_bind, bind_pair]
      · rfl
    · simp only [cond_bind, asrt_bind, bind_pair]
    · rfl
  · rfl

theorem indexAddrK_nat {t : TypeId} {gc : Bool} {x i : SV} : indexAddrK P t gc x i h K = (indexAddrK P t gc x i h pair).bind fun q => K q.1 q.2 := by
  unfold indexAddrK
  split
  · unfold arrAddrK
    split
    · split
      · rw [pickI_bind]; rfl
      · rfl
    · rfl
  · exact sliceAddrK_nat

theorem indexK_nat {t : TypeId} {gc : Bool} {x i : SV} : indexK P t gc x i h K = (indexK P t gc x i h pair).bind fun q => K q.1 q.2 := by
  unfold indexK
  split
  · rw [Option.bind_assoc]; rfl
  · rfl

theorem sliceK_nat {t : TypeId} {gc un : Bool} {x : SV} {lo hi mx : Option SV} : sliceK P t gc un x lo hi mx h K = (sliceK P t gc un x lo hi mx h pair).bind fun q => K q.1 q.2 := by
  unfold sliceK
  repeat' (first | rfl | split)
  all_goals simp only [cond_bind, asrt_bind, bind_pair]

theorem lenK_nat {t : TypeId} {x : SV} : lenK P t x h K = (lenK P t x h pair).bind fun q => K q.1 q.2 := by
  unfold lenK
  repeat' (first | rfl | split)

theorem appendK_nat {ts : List TypeId} {un : Bool} {s x : SV} : appendK P ts un s x h K = (appendK P ts un s x h pair).bind fun q => K q.1 q.2 := by
  unfold appendK
  split
  · split
    · split
      · rw [cond_bind]
        congr 1
        repeat' (first | rfl | split)
        all_goals simp only [asrt_bind, bind_pair]
      · rfl
    · rfl
  · rfl

theorem makeSliceK_nat {t : TypeId} {gc un : Bool} {l c : SV} : makeSliceK P t gc un l c h K = (makeSliceK P t gc un l c h pair).bind fun q => K q.1 q.2 := by
  unfold makeSliceK
  repeat' (first | rfl | split)
  all_goals simp only [cond_bind, asrt_bind, bind_pair]

theorem makeMapK_nat {t : TypeId} {un : Bool} : makeMapK P t un h K = (makeMapK P t un h pair).bind fun q => K q.1 q.2 := by
  unfold makeMapK
  repeat' (first | rfl | split)
  all_goals simp only [cond_bind, bind_pair]

theorem lookupK_nat {t : TypeId} {x i : SV} {co : Bool} : lookupK P t x i co h K = (lookupK P t x i co h pair).bind fun q => K q.1 q.2 := by
  unfold lookupK
  repeat' (first | rfl | split)
  all_goals
    rw [cond_bind]
    congr 1
    cases co <;> rfl

theorem mapUpdateK_nat {t : TypeId} {m x y : SV} : mapUpdateK P t m x y h K = (mapUpdateK P t m x y h pair).bind fun q => K q.1 q.2 := by
  unfold mapUpdateK
  repeat' (first | rfl | split)
  all_goals simp only [cond_bind, asrt_bind, bind_pair]

theorem mapEntryK_nat {t : TypeId} {un : Bool} {m x : SV} : mapEntryK P t un m x h K = (mapEntryK P t un m x h pair).bind fun q => K q.1 q.2 := by
  unfold mapEntryK
  repeat' (first | rfl | split)
  all_goals simp only [cond_bind, asrt_bind, bind_pair]

theorem entryStoreK_nat {t : TypeId} {m x y : SV} : entryStoreK P t m x y h K = (entryStoreK P t m x y h pair).bind fun q => K q.1 q.2 := by
  unfold entryStoreK
  repeat' (first | rfl | split)
  all_goals simp only [cond_bind, asrt_bind, bind_pair]

theorem viewK_nat {t : TypeId} {gc : Bool} {x : SV} {lo hi mx : Option SV} : viewK P t gc x lo hi mx h K = (viewK P t gc x lo hi mx h pair).bind fun q => K q.1 q.2 := by
  unfold viewK
  repeat' (first | rfl | split)
  all_goals simp only [cond_bind, asrt_bind, bind_pair]

theorem srcK_nat {x : SV} {g : GT} {F : List g.ty → Option R} {F' : List g.ty → Option (SV × List SO)} {k : SV × List SO → Option R} (hF : ∀ ys, F ys = (F' ys).bind k) : srcK h x g F = (srcK h x g F').bind k := by
  unfold srcK
  repeat' (first | rfl | split)
  all_goals simp only [cond_bind, asrt_bind, hF]

theorem deleteK_nat {ts : List TypeId} {un : Bool} {m x : SV} : deleteK P ts un m x h K = (deleteK P ts un m x h pair).bind fun q => K q.1 q.2 := by
  unfold deleteK
  repeat' (first | rfl | split)
  all_goals simp only [cond_bind, asrt_bind, bind_pair]

theorem clearK_nat {ts : List TypeId} {un : Bool} {d : SV} : clearK P ts un d h K = (clearK P ts un d h pair).bind fun q => K q.1 q.2 := by
  unfold clearK
  repeat' (first | rfl | split)
  all_goals simp only [cond_bind, asrt_bind, bind_pair]

theorem copyK_nat {ts : List TypeId} {un : Bool} {d s : SV} : copyK P ts un d s h K = (copyK P ts un d s h pair).bind fun q => K q.1 q.2 := by
  unfold copyK
  split
  · split
    · split
      · rw [cond_bind]
        congr 1
        refine srcK_nat fun ys => ?_
        repeat' (first | rfl | split)
        all_goals simp only [cond_bind, asrt_bind, bind_pair]
      · rfl
    · rfl
  · rfl

theorem minK_nat {x y : SV} : minK x y h K = (minK x y h pair).bind fun q => K q.1 q.2 := by
  unfold minK
  split <;> rfl

theorem maxK_nat {x y : SV} : maxK x y h K = (maxK x y h pair).bind fun q => K q.1 q.2 := by
  unfold maxK
  split <;> rfl

theorem unK_nat {op : UnOp} {x : SV} : unK op x h K = (unK op x h pair).bind fun q => K q.1 q.2 := by
  unfold unK
  split <;> rfl

theorem convK_nat {s d : TypeId} {un : Bool} {x : SV} : convK P s d un x h K = (convK P s d un x h pair).bind fun q => K q.1 q.2 := by
  unfold convK
  repeat' (first | rfl | split)
  all_goals simp only [cond_bind, bind_pair]

theorem arithK_nat {op : BinOp} {k : IntKind} {gc : Bool} {a b : Int} : arithK op k gc a b h K = (arithK op k gc a b h pair).bind fun q => K q.1 q.2 := by
  cases op <;> simp only [arithK, asrt_bind, bind_pair] <;> rfl

theorem strK_nat {op : BinOp} {gc : Bool} {a b : List UInt8} : strK op gc a b h K = (strK op gc a b h pair).bind fun q => K q.1 q.2 := by
  cases op <;> simp only [strK, asrt_bind, bind_pair] <;> rfl

theorem binK_nat {op : BinOp} {t : TypeId} {gc : Bool} {x y : SV} : binK P op t gc x y h K = (binK P op t gc x y h pair).bind fun q => K q.1 q.2 := by
  unfold binK
  split
  · rw [cond_bind, arithK_nat]
  · exact strK_nat
  · repeat' (first | rfl | split)
    all_goals simp only [cond_bind, bind_pair]
  · repeat' (first | rfl | split)
  · repeat' (first | rfl | split)
  · rfl

theorem buildK_nat {t : TypeId} {ps : List (Nat × Operand)} {ev : Operand → Option SV} : buildK P t ps ev h K = (buildK P t ps ev h pair).bind fun q => K q.1 q.2 := by
  unfold buildK
  split
  · split
    · rw [cond_bind]
      congr 1
      split <;> rfl
    · rfl
  · split
    · rw [cond_bind]
      congr 1
      split <;> rfl
    · rfl
  · rfl

theorem buildSliceK_nat {t : TypeId} {un : Bool} {n : Nat} {ps : List (Nat × Operand)} {ev : Operand → Option SV} : buildSliceK P t un n ps ev h K = (buildSliceK P t un n ps ev h pair).bind fun q => K q.1 q.2 := by
  unfold buildSliceK
  cases Nat.beq n 0 with
  | true =>
    simp only [cond_true]
    split
    · split
      · rw [cond_bind]; rfl
      · rfl
    · rfl
  | false =>
  simp only [cond_false]
  split
  · split
    · rw [cond_bind]
      congr 1
      split <;> rfl
    · rfl
  · rfl

end

theorem locK_nat {E : Env} (hE : EnvOk E) {R : Type} {f : Nat} {args : List SV} {h : List SO} {K : Kont R} : locK E f args h K = (locK E f args h pair).bind fun q => K q.1 q.2 := by
  unfold locK
  conv => lhs; rw [hE.nat R f args]
  conv => rhs; rw [hE.nat (SV × List SO) f args]
  rw [Option.bind_assoc]
  congr 1
  funext p
  split <;> rfl

theorem callK_nat {E : Env} (hE : EnvOk E) {R : Type} {gc un : Bool} {f : Nat} {args : List SV} {h : List SO} {K : Kont R} : callK E gc un f args h K = (callK E gc un f args h pair).bind fun q => K q.1 q.2 := by
  unfold callK
  cases E.isPm f with
  | true =>
    simp only [cond_true]
    split
    · rw [Option.bind_assoc]; rfl
    · rfl
  | false =>
    simp only [cond_false, cond_bind]
    rw [locK_nat hE]

theorem builtinK_nat {E : Env} {R : Type} {b : Builtin} {ts : List TypeId} {gc un : Bool} {args : List SV} {h : List SO} {K : Kont R} : builtinK E b ts gc un args h K = (builtinK E b ts gc un args h pair).bind fun q => K q.1 q.2 := by
  unfold builtinK
  split
  · exact lenK_nat
  · exact appendK_nat
  · exact minK_nat
  · exact maxK_nat
  · exact copyK_nat
  · exact clearK_nat
  · exact deleteK_nat
  · rfl

theorem opK0_nat {E : Env} (hE : EnvOk E) {R : Type} {o : Op} {gc un : Bool} {ev : Operand → Option SV} {evg : Nat → Bool → Operand → Option SV} {h : List SO} {K : Kont R} :
    opK0 E o gc un ev evg h K = (opK0 E o gc un ev evg h pair).bind fun q => K q.1 q.2 := by
  cases o <;> simp only [opK0] <;> try (first | rfl | done)
  case move x => split <;> rfl
  case assign x => split <;> rfl
  case pick c x y =>
    cases c <;> simp only [opK0] <;> try rfl
    split <;> rfl
  case alloc t => split; · rw [cond_bind]; rfl
                  · rfl
  case box t x => split; · rw [cond_bind]; rfl
                  · rfl
  case build t ps => exact buildK_nat
  case buildSlice t n ps => exact buildSliceK_nat
  case load t x => split; exact loadK_nat; rfl
  case store t x y => split; · rw [cond_bind, storeN_nat]
                      · rfl
  case nilCheck x => split; · rw [cond_bind]; rfl
                     · rfl
  case binOp op t x y t2 => split; exact binK_nat; rfl
  case unOp op t x => split; exact unK_nat; rfl
  case convert s d x => split; exact convK_nat; rfl
  case makeFunc fn first caps =>
    cases fn <;> simp only [opK0] <;> try rfl
    split
    · rw [cond_bind]; rfl
    · rfl
  case makeSlice t l c => split; exact makeSliceK_nat; rfl
  case makeMap t res => cases res; exact makeMapK_nat; rfl
  case lookup t x i co => split; exact lookupK_nat; rfl
  case mapUpdate t m x y => split; · rw [cond_bind, mapUpdateK_nat]
                            · rfl
  case mapEntry t m x => split; exact mapEntryK_nat; rfl
  case entryStore t m x y => split; · rw [cond_bind, entryStoreK_nat]
                             · rfl
  case slice t x lo hi mx =>
    split
    · generalize vwB E x _ = b
      cases b with
      | true => exact viewK_nat
      | false => exact sliceK_nat
    · rfl
  case fieldAddr t x f => split; exact fieldAddrK_nat; rfl
  case field t x f => split; exact fieldK_nat; rfl
  case indexAddr t x i => split; exact indexAddrK_nat; rfl
  case index t x i => split; exact indexK_nat; rfl
  case extract x i =>
    split
    · split
      · rw [cond_bind]; rfl
      · rfl
    · rfl
  case call c =>
    split
    · split
      · exact builtinK_nat
      · split
        · rw [cond_bind, callK_nat hE]
        · rfl
      · rfl
    · rfl

theorem opK_nat {E : Env} (hE : EnvOk E) {R : Type} {o : Oper} {gc un : Bool} {ev : Operand → Option SV} {evg : Nat → Bool → Operand → Option SV} {h : List SO} {K : Kont R} :
    opK E o gc un ev evg h K = (opK E o gc un ev evg h pair).bind fun q => K q.1 q.2 := by
  unfold opK
  cases (un || Nat.ble (clsK E o.op ev) 1) with
  | true => exact opK0_nat hE
  | false =>
    simp only [cond_false]
    cases gc with
    | true => exact opK0_nat hE
    | false => rfl

end Go.Eng
