/- The small example; SchedTells. -/
import Derived.Test.YtophafggfmhooaaS6
namespace Go.Proofs.Ytophafggfmhooaa
open Go Go.Eng
set_option linter.unusedVariables false
set_option linter.unusedSimpArgs false

/-- The terms of the example. -/
def x0 : T29 := ([], [], 0, 46051, 46125, 1, 0, 1, 2, 0, [], (0, 0, 0, [], (Value.slice none 0 0), ()), 0, [], [], 0, [], 0, 0, 0, 0, ())
def c0 : T32 := ([5, 6], [], ())
theorem c0_right : RightC c0 := by decide
theorem x0_valid : VX x0 := by unfold VX x0; decide

theorem date0 : IsDate 46051 2026 0 31 := ⟨by omega, by decide, by decide, by decide +kernel⟩
theorem am0 {n : Int} (h0 : 0 ≤ n) (h1 : n ≤ 10000) : am 46051 n = addS 2026 0 31 n := by
  unfold am
  have := m21_eq date0 (by omega) (by omega) (n := n) (by omega) h1
  rw [show ((0 : Nat) : Int) = 0 from rfl] at this
  rw [this]

theorem am0_1 : am 46051 1 = (46079, 0, ()) := by rw [am0 (by omega) (by omega)]; decide +kernel
theorem am0_2 : am 46051 2 = (46110, 0, ()) := by rw [am0 (by omega) (by omega)]; decide +kernel
theorem am0_3 : am 46051 3 = (46140, 0, ()) := by rw [am0 (by omega) (by omega)]; decide +kernel

theorem bx0_0 : bx x0 0 = 46051 := rfl
theorem bx0_1 : bx x0 1 = 46079 := by
  show bnd 46051 46125 1 1 = _
  unfold bnd
  rw [show ((1 : Nat) : Int) * 1 = 1 from rfl, am0_1]; rfl
theorem bx0_2 : bx x0 2 = 46110 := by
  show bnd 46051 46125 1 2 = _
  unfold bnd
  rw [show ((2 : Nat) : Int) * 1 = 2 from rfl, am0_2]; rfl
theorem bx0_3 : bx x0 3 = 46125 := by
  show bnd 46051 46125 1 3 = _
  unfold bnd
  rw [show ((3 : Nat) : Int) * 1 = 3 from rfl, am0_3]; rfl

theorem num0 : Num x0 3 where
  one := by omega
  le := by omega
  last := by rw [bx0_3]; rfl
  lt := fun k hk => by
    show _ < (46125 : Int)
    rcases (show k = 0 ∨ k = 1 ∨ k = 2 by omega) with rfl | rfl | rfl
    · rw [bx0_0]; omega
    · rw [bx0_1]; omega
    · rw [bx0_2]; omega
  mono := fun i j h1 h2 => by
    rcases (show (i = 0 ∧ j = 1) ∨ (i = 0 ∧ j = 2) ∨ (i = 0 ∧ j = 3) ∨ (i = 1 ∧ j = 2) ∨ (i = 1 ∧ j = 3) ∨ (i = 2 ∧ j = 3) by omega) with ⟨rfl, rfl⟩ | ⟨rfl, rfl⟩ | ⟨rfl, rfl⟩ | ⟨rfl, rfl⟩ | ⟨rfl, rfl⟩ | ⟨rfl, rfl⟩ <;> simp only [bx0_0, bx0_1, bx0_2, bx0_3] <;> omega

theorem pay0 (k : Nat) (d p : Int) (hd : bx x0 (k + 1) = d) (h0 : Dy d) (h : up c0 d = (p, 0, ())) : pay x0 c0 k = (p, 0, ()) := by
  unfold pay
  rw [hd, show x0.2.2.2.2.2.2.2.1 = 1 from rfl, adj_1, nxt_ok c0_right h0, h]

theorem rec0 (k : Nat) (p r : Int) (hp : pay x0 c0 k = (p, 0, ())) (h0 : Dy p) (h : bkN c0 2 p = (r, 0, ())) : rec' x0 c0 k = (r, 0, ()) := by
  unfold rec'
  rw [hp, show x0.2.2.2.2.2.2.2.2.1 = 2 from rfl, bk_ok c0_right h0 (by omega) (by omega)]
  exact h

theorem bk0 {d a b : Int} (ha : dn c0 (d - 1) = (a, 0, ())) (hb : dn c0 (a - 1) = (b, 0, ())) : bkN c0 2 d = (b, 0, ()) := by
  rw [bkN_succ, ha, if_pos rfl, bkN_succ, hb, if_pos rfl]
  rfl

theorem pay0_0 : pay x0 c0 0 = (46081, 0, ()) := pay0 0 46079 46081 bx0_1 (by decide) (up_of (by omega) (by omega) (by decide) (fun y h1 h2 => by
  rcases (show y = 46079 ∨ y = 46080 by omega) with rfl | rfl <;> decide))
theorem pay0_1 : pay x0 c0 1 = (46110, 0, ()) := pay0 1 46110 46110 bx0_2 (by decide) (up_of (by omega) (by omega) (by decide) (fun y h1 h2 => by omega))
theorem pay0_2 : pay x0 c0 2 = (46125, 0, ()) := pay0 2 46125 46125 bx0_3 (by decide) (up_of (by omega) (by omega) (by decide) (fun y h1 h2 => by omega))
theorem rec0_0 : rec' x0 c0 0 = (46077, 0, ()) := rec0 0 46081 46077 pay0_0 (by decide) (bk0 (a := 46078)
  (dn_of (by omega) (by omega) (by decide) (fun y h1 h2 => by rcases (show y = 46079 ∨ y = 46080 by omega) with rfl | rfl <;> decide))
  (dn_of (by omega) (by omega) (by decide) (fun y h1 h2 => by omega)))
theorem rec0_1 : rec' x0 c0 1 = (46106, 0, ()) := rec0 1 46110 46106 pay0_1 (by decide) (bk0 (a := 46109)
  (dn_of (by omega) (by omega) (by decide) (fun y h1 h2 => by omega))
  (dn_of (by omega) (by omega) (by decide) (fun y h1 h2 => by rcases (show y = 46107 ∨ y = 46108 by omega) with rfl | rfl <;> decide)))
theorem rec0_2 : rec' x0 c0 2 = (46123, 0, ()) := rec0 2 46125 46123 pay0_2 (by decide) (bk0 (a := 46124)
  (dn_of (by omega) (by omega) (by decide) (fun y h1 h2 => by omega))
  (dn_of (by omega) (by omega) (by decide) (fun y h1 h2 => by omega)))

/-- The periods of the example. -/
def l0 : List T46 := [(46051, 46079, 46081, 46077, ()), (46079, 46110, 46110, 46106, ()), (46110, 46125, 46125, 46123, ())]

theorem m11_0 : m11 x0 c0 = some (l0, 0, ()) := by
  rw [m11_ok x0_valid c0_right num0]
  have e0 : perE x0 c0 0 = 0 := by unfold perE; rw [pay0_0, rec0_0]; rfl
  have e1 : perE x0 c0 1 = 0 := by unfold perE; rw [pay0_1, rec0_1]; rfl
  have e2 : perE x0 c0 2 = 0 := by unfold perE; rw [pay0_2, rec0_2]; rfl
  have v0 : perV x0 c0 0 = (46051, 46079, 46081, 46077, ()) := by unfold perV; rw [pay0_0, rec0_0, bx0_0, bx0_1]
  have v1 : perV x0 c0 1 = (46079, 46110, 46110, 46106, ()) := by unfold perV; rw [pay0_1, rec0_1, bx0_1, bx0_2]
  have v2 : perV x0 c0 2 = (46110, 46125, 46125, 46123, ()) := by unfold perV; rw [pay0_2, rec0_2, bx0_2, bx0_3]
  rw [out_succ, e0, if_neg (by simp), out_succ, e1, if_neg (by simp), out_succ, e2, if_neg (by simp), v0, v1, v2]
  rfl

theorem m9_eq : m9 = some true := by
  unfold m9
  rw [show m24 = some x0 from rfl, show m25 = some c0 from rfl]
  simp only [Option.bind_some, m11_0]
  rw [bifF (by decide), m13_eq l0 (by decide), show atN l0 46079 l0.length 0 = (1, true, ()) by decide]
  simp only [Option.bind_some]
  rw [show ([(46051, 46079, 46081, 46077, ()), (46079, 46110, 46110, 46106, ()), (46110, 46125, 46125, 46123, ())] : List T46) = l0 from rfl, m15_same l0 (by decide)]
  simp only [Option.bind_some, beq_self_eq_true, Bool.and_self, cond_true]
  rw [m17_eq l0 (by decide), show dueL l0 46081 l0.length = [0] by decide]
  simp only [Option.bind_some]
  rw [m16_same [0] (by decide)]
  rfl

theorem schedTells (x : T29) (c : T32) (l : List T46) (d : Int) : m3 x c l d = some true := by
  unfold m3
  obtain ⟨b, hb, _⟩ := m10_eq x c
  rw [m9_eq, hb]
  simp only [Option.bind_some]
  cases b with
  | false => rfl
  | true =>
    by_cases hl : l.length ≤ 60
    case neg =>
      rw [bifT (by simp; omega)]
    rw [bifF (by simp; omega), m12_eq]
    have hlen : ∃ r, m11 x c = some r ∧ r.1.length ≤ 200000 := by
      by_cases h : VX x ∧ RightC c
      · obtain ⟨N, hN⟩ := num_ex h.1
        refine ⟨_, m11_ok h.1 h.2 hN, ?_⟩
        by_cases he : (out x c 0 N []).2.1 = 0
        · rw [(out_ok x c N 0 [] he).1]
          have := hN.le
          simp; omega
        · rw [out_err x c N 0 [] he]; simp
      · exact ⟨_, m11_bad h, by simp⟩
    obtain ⟨r, hr, hrl⟩ := hlen
    rw [hr, m13_eq l (by omega), m14_eq l (by omega)]
    simp only [Option.bind_some]
    rw [m15_same _ hrl]
    simp only [beq_self_eq_true, Bool.and_self, cond_true, Option.bind_some, m17_eq l (by omega : l.length ≤ 200000), m18_eq l (by omega : l.length ≤ 200000)]
    rw [m16_same _ (by have := dueL_len l d l.length; omega)]
    rfl

end Go.Proofs.Ytophafggfmhooaa
