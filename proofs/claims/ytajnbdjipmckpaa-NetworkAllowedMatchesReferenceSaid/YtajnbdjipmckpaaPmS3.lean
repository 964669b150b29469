/- What the functions of the program compute, each as a contract: the conditions stand in each statement. -/
import Derived.Test.YtajnbdjipmckpaaPmS2
import Derived.Test.YtajnbdjipmckpaaPmG3
import Derived.Laws.Bits64b
import Derived.Test.YtajnbdjipmckpaaPmS1
set_option linter.all false
section
/- Contracts: distances. -/
namespace Go.Proofs
open Go.Pm
set_option maxRecDepth 100000
set_option maxHeartbeats 4000000

abbrev Pt := Int × Int
def nearB (p : Pt) : Bool := decide (-2097152 ≤ p.1 ∧ p.1 ≤ 2097152 ∧ -2097152 ≤ p.2 ∧ p.2 ≤ 2097152)
theorem nearB_iff {p : Pt} : nearB p = true ↔ -2097152 ≤ p.1 ∧ p.1 ≤ 2097152 ∧ -2097152 ≤ p.2 ∧ p.2 ≤ 2097152 := by simp [nearB]
def encPts (L : List Pt) : D := encL 2 ((0, 0) : Pt) encPt L
theorem c108 (p q : Pt) (hp : nearB p = true) (hq : nearB q = true) : PCall Try.prog 108 [.d (encPt p), .d (encPt q)] fun x => x = .d (encPt (q.1 - p.1, q.2 - p.2)) := by
  obtain ⟨h1, h2, h3, h4⟩ := nearB_iff.1 hp
  obtain ⟨g1, g2, g3, g4⟩ := nearB_iff.1 hq
  refine PCall.intro Try.tabOk Try.f108 _ Try.func108 rfl (by decide) rfl fun z => ?_
  repeat' first
    | (with_reducible refine AW.seq ?_)
    | ((with_reducible refine AW.region Try.tabOk ?_); (conv => whnf))
    | ((with_reducible refine AW.ret ?_); (conv => whnf))
    | ((with_reducible apply Or.inl); (with_reducible apply And.intro); (focus (first | assumption | (simp only [rng]; omega) | (simp [rng, IntKind.bits]; omega))); (conv => whnf))
  (try (any_goals (refine Side.mk ⟨rfl, ?_, ?_⟩ <;> (simp [maxLen]; omega))))
  rfl
theorem c107 (L : List Pt) : PCall Try.prog 107 [.d (encPts L)] fun x => x = .d (.bool (L.all nearB)) := by
  refine PCall.intro Try.tabOk Try.f107 _ Try.func107 rfl (by decide) rfl fun z => ?_
  repeat' first
    | (with_reducible refine AW.seq ?_)
    | ((with_reducible refine AW.region Try.tabOk ?_); (conv => whnf))
    | ((with_reducible refine AW.block ?_))
    | (intro hlen; (conv => whnf))
  (try (any_goals (refine Side.mk ⟨rfl, ?_, ?_⟩ <;> (simp [maxLen]; omega))))
  refine AW.loopS (X := Nat) [6, 5, 2] [] (fun i => [(7, .d (.int .i64 (i : Int)))]) (fun i => []) (fun _ => 0)
    (fun i => i ≤ L.length ∧ ∀ k, k < i → nearB (L.getD k (0, 0)) = true) (fun i => L.length - i) 0 ⟨Nat.zero_le _, fun k h => absurd h (Nat.not_lt_zero k)⟩ (fun _ _ => rfl) (by refine ⟨rfl, rfl, rfl, ?_, ?_⟩ <;> repeat' (first | exact trivial | exact OLe.refl _ | exact AV.le_refl _ | apply And.intro)) ?_
  intro i ⟨hi, hw⟩
  have nb : ∀ p : Pt, ((2097152 < if p.1 < p.2 then p.2 else p.1) ∨ (if p.2 < p.1 then p.2 else p.1) < -2097152) ↔ nearB p = false := by
    intro p
    rw [← Bool.not_eq_true, nearB_iff]
    constructor
    · intro h; split at h <;> split at h <;> omega
    · intro h; split <;> split <;> omega
  repeat' first
    | (with_reducible refine AW.seq ?_)
    | ((with_reducible refine AW.region Try.tabOk ?_); (conv => whnf))
    | ((with_reducible refine AW.ret ?_); (conv => whnf))
    | ((with_reducible refine AW.block ?_))
    | ((with_reducible refine AW.exit ?_); (conv => whnf))
    | ((with_reducible refine AW.skip ?_); (conv => whnf))
    | ((with_reducible refine AW.cond ?_); (conv => whnf))
    | ((with_reducible apply Or.inl); apply Exists.intro; apply And.intro; (focus (intro hg; (conv => whnf); (repeat' first | (with_reducible exact ⟨rfl, rfl⟩) | ((with_reducible refine Own2.data ?_); (conv => whnf)) | (refine ⟨true, _, rfl, ?_⟩; (conv => whnf)) | (refine ⟨false, .nilp, rfl, ?_⟩; (conv => whnf)) | (refine ⟨_, _, by first | fail, ?_⟩; (conv => whnf)) | ((with_reducible apply Or.inl); (refine ⟨rfl, rfl, ?_⟩); (conv => whnf)) | ((with_reducible apply Or.inl); (with_reducible apply And.intro); (focus (first | assumption | (simp only [rng]; omega) | (simp [rng, IntKind.bits]; omega))); (conv => whnf)) | (refine ⟨by first | omega | (simp; omega) | (simp at hg ⊢; omega) | (simp_all; first | done | fail), ?_⟩; (conv => whnf)) | ((with_reducible refine ACall.id ?_); (refine PCall.call (by first | fail) rfl ?_); (intro x hx; first | subst hx | (obtain ⟨l_, rfl, hl_⟩ := hx.out)); (conv => whnf)) | ((with_reducible apply Or.inr); (with_reducible exact ⟨rfl, rfl⟩)) | ((with_reducible apply Or.inr); (with_reducible apply And.intro) <;> (intro hb_; first | (cases hb_; done) | (conv => whnf))) | (intro hlen; (conv => whnf))); done)); (conv => whnf))
    | ((with_reducible apply Or.inl); (with_reducible apply And.intro); (focus (first | assumption | (simp only [rng]; omega) | (simp [rng, IntKind.bits]; omega))); (conv => whnf))
    | ((with_reducible apply And.intro); (focus (first | omega | assumption | (exact True.intro) | (simp; omega) | (exact Nat.le_of_ble_eq_true rfl) | (exact ⟨rfl, Nat.le_of_ble_eq_true rfl⟩) | (exact ⟨Nat.le_of_ble_eq_true rfl, Nat.le_of_ble_eq_true rfl⟩) | (intro hg; first | (simp; first | done | fail) | (simp at hg ⊢; exact hg) | (simp at hg; exact hg) | exact hg))); (conv => whnf))
    | ((with_reducible apply And.intro) <;> (intro hb; (try simp at hb); (try (exfalso; first | omega | (simp_all; first | done | fail))); (try (conv => whnf))))
  (try (any_goals (refine Side.mk ⟨rfl, ?_, ?_⟩ <;> (simp [maxLen]; omega))))
  · rename_i hb
    have := (nb _).1 hb
    rw [List.all_eq_false.2 ⟨L.getD i (0, 0), by rw [List.getD_eq_getElem?_getD, List.getElem?_eq_getElem (by assumption)]; exact List.getElem_mem _, by rw [List.getD_eq_getElem?_getD, this]; simp⟩]
  · rename_i hb
    exact .mk (i + 1) ⟨by assumption, upto_lt hw (by
      rw [List.getD_eq_getElem?_getD]
      cases hc : nearB (L[i]?.getD (0, 0)) with
      | true => rfl
      | false => exact absurd ((nb _).2 hc) (by omega))⟩ (by show L.length - (i + 1) < L.length - i; omega) (by refine ⟨rfl, rfl, rfl, ?_, ?_, rfl⟩ <;> repeat' (first | exact trivial | exact OLe.refl _ | exact AV.le_refl _ | apply And.intro))
  · have he : i = L.length := by omega
    subst he
    rw [List.all_eq_true.2 fun p hp => ?_]
    obtain ⟨k, hk, rfl⟩ := List.mem_iff_getElem.1 hp
    have := hw k hk
    rwa [List.getD_eq_getElem?_getD, List.getElem?_eq_getElem hk] at this
theorem c109 (p q : Pt) (h1 : rng .i64 (p.1 * q.1)) (h2 : rng .i64 (p.2 * q.2)) (h3 : rng .i64 (p.1 * q.1 + p.2 * q.2)) : PCall Try.prog 109 [.d (encPt p), .d (encPt q)] fun x => x = .d (.int .i64 (p.1 * q.1 + p.2 * q.2)) := by
  refine PCall.intro Try.tabOk Try.f109 _ Try.func109 rfl (by decide) rfl fun z => ?_
  repeat' first
    | (with_reducible refine AW.seq ?_)
    | ((with_reducible refine AW.region Try.tabOk ?_); (conv => whnf))
    | ((with_reducible refine AW.ret ?_); (conv => whnf))
    | ((with_reducible apply Or.inl); (with_reducible apply And.intro); (focus (first | assumption | (simp only [rng]; omega) | (simp [rng, IntKind.bits]; omega))); (conv => whnf))
  (try (any_goals (refine Side.mk ⟨rfl, ?_, ?_⟩ <;> (simp [maxLen]; omega))))
/-- The root, rounded down, digit by digit: root and rest. -/
def rootF (n : Nat) : Nat → Nat × Nat
  | 0 => (0, 0)
  | i + 1 => if 4 * (rootF n i).1 + 1 ≤ 4 * (rootF n i).2 + n / 4 ^ (31 - i) % 4 then (2 * (rootF n i).1 + 1, 4 * (rootF n i).2 + n / 4 ^ (31 - i) % 4 - (4 * (rootF n i).1 + 1)) else (2 * (rootF n i).1, 4 * (rootF n i).2 + n / 4 ^ (31 - i) % 4)
theorem div4 (n i : Nat) (h : i < 32) : n / 4 ^ (32 - (i + 1)) = 4 * (n / 4 ^ (32 - i)) + n / 4 ^ (31 - i) % 4 := by
  have e : 4 ^ (32 - i) = 4 ^ (31 - i) * 4 := by rw [show 32 - i = (31 - i) + 1 by omega, Nat.pow_succ]
  rw [show 32 - (i + 1) = 31 - i by omega, e, ← Nat.div_div_eq_div_mul]
  omega
theorem rootF_inv (n : Nat) (hn : n < 4 ^ 32) : ∀ i, i ≤ 32 → (rootF n i).1 * (rootF n i).1 + (rootF n i).2 = n / 4 ^ (32 - i) ∧ (rootF n i).2 ≤ 2 * (rootF n i).1 ∧ (rootF n i).1 < 2 ^ i
  | 0, _ => ⟨by
      show 0 * 0 + 0 = n / 4 ^ 32
      rw [Nat.div_eq_of_lt hn], Nat.le_refl _, Nat.one_pos⟩
  | i + 1, hi => by
    obtain ⟨h1, h2, h3⟩ := rootF_inv n hn i (by omega)
    rw [div4 n i (by omega), ← h1]
    have hd : n / 4 ^ (31 - i) % 4 < 4 := Nat.mod_lt _ (by omega)
    simp only [rootF]
    generalize n / 4 ^ (31 - i) % 4 = d at hd
    generalize (rootF n i).1 = r at h2 h3
    generalize (rootF n i).2 = s at h2
    have hp : 2 ^ (i + 1) = 2 * 2 ^ i := by rw [Nat.pow_succ, Nat.mul_comm]
    split
    · rename_i h
      refine ⟨?_, by omega, by simp only; omega⟩
      simp only
      have : (2 * r + 1) * (2 * r + 1) = 4 * (r * r) + 4 * r + 1 := by
        rw [Nat.mul_add, Nat.add_mul]
        have : 2 * r * (2 * r) = 4 * (r * r) := by rw [Nat.mul_mul_mul_comm]
        omega
      omega
    · rename_i h
      refine ⟨?_, by simp only; omega, by simp only; omega⟩
      simp only
      have : 2 * r * (2 * r) = 4 * (r * r) := by rw [Nat.mul_mul_mul_comm]
      omega
theorem rootF_sqrt (n : Nat) (hn : n < 4 ^ 32) : (rootF n 32).1 = Nat.sqrt n := by
  obtain ⟨h1, h2, _⟩ := rootF_inv n hn 32 (Nat.le_refl _)
  rw [Nat.sub_self, Nat.pow_zero, Nat.div_one] at h1
  generalize (rootF n 32).1 = r at *
  generalize (rootF n 32).2 = s at *
  have a1 := Nat.sqrt_le n
  have a2 := Nat.lt_succ_sqrt n
  generalize Nat.sqrt n = q at *
  rcases Nat.lt_trichotomy r q with h | h | h
  · have : (r + 1) * (r + 1) ≤ q * q := Nat.mul_le_mul h h
    rw [Nat.mul_add, Nat.add_mul] at this
    omega
  · exact h
  · have : q.succ * q.succ ≤ r * r := Nat.mul_le_mul h h
    omega
theorem digit_eq {n : Int} (hn : 0 ≤ n) (hn2 : n ≤ 9223372036854775807) {i : Nat} (hi : i < 32) : bits .and .u64 (n.fdiv (2 ^ (min (62 - 2 * (i : Int)).toNat IntKind.u64.bits))) 3 = ((n.toNat / 4 ^ (31 - i) % 4 : Nat) : Int) := by
  obtain ⟨k, rfl⟩ := Int.eq_ofNat_of_zero_le hn
  have e : min (62 - 2 * (i : Int)).toNat IntKind.u64.bits = 2 * (31 - i) := by simp only [IntKind.bits]; omega
  rw [e]
  have e2 : (k : Int).fdiv (2 ^ (2 * (31 - i))) = ((k / 4 ^ (31 - i) : Nat) : Int) := by
    rw [Int.fdiv_eq_ediv_of_nonneg _ (Int.pow_nonneg (by omega))]
    rw [show (4 : Nat) = 2 ^ 2 from rfl, ← Nat.pow_mul]
    push_cast
    rfl
  rw [e2]
  have hle : k / 4 ^ (31 - i) ≤ k := Nat.div_le_self _ _
  have := bits_and_u64_nat (k / 4 ^ (31 - i)) 3 (by omega) (by omega)
  rw [show ((3 : Nat) : Int) = 3 from rfl] at this
  rw [this]
  congr 1
  exact Nat.and_two_pow_sub_one_eq_mod _ 2
theorem or_low {a b k : Nat} (hk : b < 2 ^ k) (ha : 2 ^ k * a < 18446744073709551616) (hb : b < 18446744073709551616) : bits .or .u64 ((2 ^ k * a : Nat) : Int) (b : Int) = ((2 ^ k * a + b : Nat) : Int) := by
  rw [bits_or_u64_nat _ _ ha hb, Nat.two_pow_add_eq_or_of_lt hk]
theorem rest_eq {n : Int} (hn : 0 ≤ n) (hn2 : n ≤ 9223372036854775807) {i s : Nat} (hi : i < 32) (hs : s ≤ 4294967294) : bits .or .u64 ((s : Int) * 2 ^ (min (Int.toNat 2) IntKind.u64.bits)) (bits .and .u64 (n.fdiv (2 ^ (min (62 - 2 * (i : Int)).toNat IntKind.u64.bits))) 3) = ((4 * s + n.toNat / 4 ^ (31 - i) % 4 : Nat) : Int) := by
  rw [digit_eq hn hn2 hi]
  have := or_low (a := s) (b := n.toNat / 4 ^ (31 - i) % 4) (k := 2) (Nat.mod_lt _ (by omega)) (by omega) (by omega)
  rw [show 2 ^ 2 * s = 4 * s from rfl] at this
  rw [← this]
  congr 1
  simp [IntKind.bits]
  omega
theorem next_eq {r : Nat} (hr : r ≤ 2147483647) : bits .or .u64 ((r : Int) * 2 ^ (min (Int.toNat 1) IntKind.u64.bits) * 2 ^ (min (Int.toNat 1) IntKind.u64.bits)) 1 = ((4 * r + 1 : Nat) : Int) := by
  have := or_low (a := r) (b := 1) (k := 2) (by omega) (by omega) (by omega)
  rw [show 2 ^ 2 * r = 4 * r from rfl] at this
  rw [← this]
  congr 1
  simp [IntKind.bits]
  omega
theorem one_eq {r : Nat} (hr : r ≤ 2147483647) : bits .or .u64 ((r : Int) * 2 ^ (min (Int.toNat 1) IntKind.u64.bits)) 1 = ((2 * r + 1 : Nat) : Int) := by
  have := or_low (a := r) (b := 1) (k := 1) (by omega) (by omega) (by omega)
  rw [show 2 ^ 1 * r = 2 * r from rfl] at this
  rw [← this]
  congr 1
  simp [IntKind.bits]
  omega
def rootI (n : Int) : Int := if n < 0 then 0 else (Nat.sqrt n.toNat : Int)
theorem c88 (n : Int) (h : rng .i64 n) : PCall Try.prog 88 [.d (.int .i64 n)] fun x => x = .d (.int .i64 (rootI n)) := by
  simp only [rng] at h
  refine PCall.intro Try.tabOk Try.f88 _ Try.func88 rfl (by decide) rfl fun z => ?_
  repeat' first
    | (with_reducible refine AW.seq ?_)
    | ((with_reducible refine AW.region Try.tabOk ?_); (conv => whnf))
    | ((with_reducible refine AW.ret ?_); (conv => whnf))
    | ((with_reducible refine AW.block ?_))
    | ((with_reducible refine AW.skip ?_); (conv => whnf))
    | ((with_reducible refine AW.cond ?_); (conv => whnf))
    | ((with_reducible apply And.intro) <;> (intro hb; (try simp at hb); (try (exfalso; first | omega | (simp_all; first | done | fail))); (try (conv => whnf))))
  (try (any_goals (refine Side.mk ⟨rfl, ?_, ?_⟩ <;> (simp [maxLen]; omega))))
  · rw [rootI, if_pos hb]
  have hn4 : n.toNat < 4 ^ 32 := by omega
  refine AW.loopS (X := Nat) [2, 0] [] (fun i => [(9, .d (.int .i64 (i : Int))), (4, .d (.int .u64 ((rootF n.toNat i).2 : Int))), (3, .d (.int .u64 ((rootF n.toNat i).1 : Int)))]) (fun i => []) (fun _ => 0)
    (fun i => i ≤ 32) (fun i => 32 - i) 0 (Nat.zero_le _) (fun _ _ => rfl) (by refine ⟨rfl, rfl, rfl, ?_, ?_⟩ <;> repeat' (first | exact trivial | exact OLe.refl _ | exact AV.le_refl _ | apply And.intro)) ?_
  intro i hi
  obtain ⟨f1, f2, f3⟩ := rootF_inv n.toNat hn4 i hi
  have hF : (rootF n.toNat i).1 ≤ 4294967295 ∧ (rootF n.toNat i).2 ≤ 2 * (rootF n.toNat i).1 ∧ (i < 32 → (rootF n.toNat i).1 ≤ 2147483647) := by
    refine ⟨?_, f2, fun h => ?_⟩
    · have : 2 ^ i ≤ 2 ^ 32 := Nat.pow_le_pow_right (by omega) hi
      omega
    · have : 2 ^ i ≤ 2 ^ 31 := Nat.pow_le_pow_right (by omega) (by omega)
      omega
  clear f1 f2 f3
  have e1 := fun h1 h2 => rest_eq (i := i) (s := (rootF n.toNat i).2) (by assumption) h.2 h1 h2
  have e2 := fun h1 => next_eq (r := (rootF n.toNat i).1) h1
  have e3 := fun h1 => one_eq (r := (rootF n.toNat i).1) h1
  repeat' first
    | (with_reducible refine AW.seq ?_)
    | ((with_reducible refine AW.region Try.tabOk ?_); (conv => whnf))
    | ((with_reducible refine AW.ret ?_); (conv => whnf))
    | ((with_reducible refine AW.block ?_))
    | ((with_reducible refine AW.exit ?_); (conv => whnf))
    | ((with_reducible refine AW.skip ?_); (conv => whnf))
    | ((with_reducible refine AW.cond ?_); (conv => whnf))
    | ((with_reducible apply Or.inl); (with_reducible apply And.intro); (focus (first | assumption | (simp only [rng]; omega) | (simp [rng, IntKind.bits]; omega))); (conv => whnf))
    | ((with_reducible apply And.intro); (focus (first | omega | assumption | (exact True.intro) | (simp; omega) | (exact Nat.le_of_ble_eq_true rfl) | (exact ⟨rfl, Nat.le_of_ble_eq_true rfl⟩) | (exact ⟨Nat.le_of_ble_eq_true rfl, Nat.le_of_ble_eq_true rfl⟩) | (intro hg; first | (simp; first | done | fail) | (simp at hg ⊢; exact hg) | (simp at hg; exact hg) | exact hg))); (conv => whnf))
    | ((with_reducible apply And.intro) <;> (intro hb; (try simp at hb); (try (exfalso; first | omega | (simp_all; first | done | fail))); (try (conv => whnf))))
  (try (any_goals (refine Side.mk ⟨rfl, ?_, ?_⟩ <;> (simp [maxLen]; omega))))
  · rename_i hb
    have hi32 : i < 32 := by omega
    have q1 := e1 hi32 (by have := hF.2.2 hi32; omega)
    have q2 := e2 (hF.2.2 hi32)
    have q3 := e3 (hF.2.2 hi32)
    have hb2 : ((4 * (rootF n.toNat i).1 + 1 : Nat) : Int) ≤ ((4 * (rootF n.toNat i).2 + n.toNat / 4 ^ (31 - i) % 4 : Nat) : Int) := by rw [← q1, ← q2]; exact hb
    have hd : n.toNat / 4 ^ (31 - i) % 4 < 4 := Nat.mod_lt _ (by omega)
    refine Or.inl ⟨by rw [q1, q2]; simp only [rng]; omega, ?_⟩
    (conv => whnf)
    repeat' first
      | ((with_reducible refine AW.region Try.tabOk ?_); (conv => whnf))
      | ((with_reducible apply Or.inl); (with_reducible apply And.intro); (focus (first | assumption | (simp only [rng]; omega) | (simp [rng, IntKind.bits]; omega))); (conv => whnf))
    (try (any_goals (refine Side.mk ⟨rfl, ?_, ?_⟩ <;> (simp [maxLen]; omega))))
    exact .mk (i + 1) (by omega) (by show 32 - (i + 1) < 32 - i; omega) ⟨rfl, rfl, rfl, trivial, ⟨AV.le_refl _, AV.le_of_eq (by
      have : (rootF n.toNat (i + 1)).2 = 4 * (rootF n.toNat i).2 + n.toNat / 4 ^ (31 - i) % 4 - (4 * (rootF n.toNat i).1 + 1) := by simp only [rootF]; rw [if_pos (by omega)]
      show AV.d (D.int .u64 (_ - _)) = AV.d (D.int .u64 _)
      congr 2
      rw [this]
      refine (congrArg (fun v => v - _) q1).trans ((congrArg (fun v => _ - v) q2).trans ?_)
      omega), AV.le_of_eq (by
      have : (rootF n.toNat (i + 1)).1 = 2 * (rootF n.toNat i).1 + 1 := by simp only [rootF]; rw [if_pos (by omega)]
      show AV.d (D.int .u64 _) = AV.d (D.int .u64 _)
      congr 2
      rw [this]
      exact q3), AV.le_refl _, AV.le_refl _, trivial⟩, rfl⟩
  · rename_i hb
    have hi32 : i < 32 := by omega
    have q1 := e1 hi32 (by have := hF.2.2 hi32; omega)
    have q2 := e2 (hF.2.2 hi32)
    have hb2 : ((4 * (rootF n.toNat i).2 + n.toNat / 4 ^ (31 - i) % 4 : Nat) : Int) < ((4 * (rootF n.toNat i).1 + 1 : Nat) : Int) := by rw [← q1, ← q2]; exact hb
    exact .mk (i + 1) (by omega) (by show 32 - (i + 1) < 32 - i; omega) ⟨rfl, rfl, rfl, trivial, ⟨AV.le_refl _, AV.le_of_eq (by
      have : (rootF n.toNat (i + 1)).2 = 4 * (rootF n.toNat i).2 + n.toNat / 4 ^ (31 - i) % 4 := by simp only [rootF]; rw [if_neg (by omega)]
      show AV.d (D.int .u64 _) = AV.d (D.int .u64 _)
      congr 2
      rw [this]
      exact q1), AV.le_of_eq (by
      have : (rootF n.toNat (i + 1)).1 = 2 * (rootF n.toNat i).1 := by simp only [rootF]; rw [if_neg (by omega)]
      show AV.d (D.int .u64 _) = AV.d (D.int .u64 _)
      congr 2
      rw [this]
      simp [IntKind.bits]; omega), AV.le_refl _, AV.le_refl _, trivial⟩, rfl⟩
  · have he : i = 32 := by omega
    subst he
    rw [rootI, if_neg (by omega), rootF_sqrt _ hn4]
def distI (p q : Pt) : Int := if nearB p && nearB q then (q.1 - p.1) * (q.1 - p.1) + (q.2 - p.2) * (q.2 - p.2) else 0
theorem sq_bound {x : Int} (h1 : -4194304 ≤ x) (h2 : x ≤ 4194304) : 0 ≤ x * x ∧ x * x ≤ 17592186044416 := by
  constructor
  · rcases Int.le_total 0 x with h | h
    · exact Int.mul_nonneg h h
    · exact Int.mul_nonneg_of_nonpos_of_nonpos h h
  · have := Int.mul_le_mul_of_natAbs_le (x := x) (y := x) (s := 4194304) (t := 4194304) (by omega) (by omega)
    simpa using this
theorem distI_bound (p q : Pt) : 0 ≤ distI p q ∧ distI p q ≤ 35184372088832 := by
  unfold distI
  split
  · rename_i h
    rw [Bool.and_eq_true] at h
    obtain ⟨h1, h2, h3, h4⟩ := nearB_iff.1 h.1
    obtain ⟨g1, g2, g3, g4⟩ := nearB_iff.1 h.2
    have a := sq_bound (x := q.1 - p.1) (by omega) (by omega)
    have b := sq_bound (x := q.2 - p.2) (by omega) (by omega)
    omega
  · omega
theorem c107l (p q : Pt) : PCall Try.prog 107 [.d (.list 2 [encPt p, encPt q])] fun x => x = .d (.bool ([p, q].all nearB)) :=
  (c107 [p, q]).le ⟨AV.leL (by rfl), trivial⟩
theorem dist_rng {p q : Pt} (h : nearB p = true ∧ nearB q = true) : rng .i64 ((q.1 - p.1) * (q.1 - p.1)) ∧ rng .i64 ((q.2 - p.2) * (q.2 - p.2)) ∧ rng .i64 ((q.1 - p.1) * (q.1 - p.1) + (q.2 - p.2) * (q.2 - p.2)) := by
  obtain ⟨h1, h2, h3, h4⟩ := nearB_iff.1 h.1
  obtain ⟨g1, g2, g3, g4⟩ := nearB_iff.1 h.2
  have a := sq_bound (x := q.1 - p.1) (by omega) (by omega)
  have b := sq_bound (x := q.2 - p.2) (by omega) (by omega)
  simp only [rng]
  omega
theorem c89 (p q : Pt) : PCall Try.prog 89 [.d (encPt p), .d (encPt q)] fun x => x = .d (.int .i64 (distI p q)) := by
  refine PCall.intro Try.tabOk Try.f89 _ Try.func89 rfl (by decide) rfl fun z => ?_
  repeat' first
    | (with_reducible refine AW.seq ?_)
    | ((with_reducible refine AW.region Try.tabOk ?_); (conv => whnf))
    | ((with_reducible refine AW.ret ?_); (conv => whnf))
    | ((with_reducible refine AW.skip ?_); (conv => whnf))
    | ((with_reducible refine AW.cond ?_); (conv => whnf))
    | ((with_reducible refine Own2.data ?_); (conv => whnf))
    | ((with_reducible refine ACall.id ?_); (refine PCall.call (by first | exact c107l p q | exact c108 p q hb.1 hb.2 | exact c109 _ _ (dist_rng (p := p) (q := q) hb).1 (dist_rng (p := p) (q := q) hb).2.1 (dist_rng (p := p) (q := q) hb).2.2) rfl ?_); (intro x hx; first | subst hx | (obtain ⟨l_, rfl, hl_⟩ := hx.out)); (conv => whnf))
    | ((with_reducible apply And.intro); (focus (first | omega | assumption | (exact True.intro) | (simp; omega) | (exact Nat.le_of_ble_eq_true rfl) | (exact ⟨rfl, Nat.le_of_ble_eq_true rfl⟩) | (exact ⟨Nat.le_of_ble_eq_true rfl, Nat.le_of_ble_eq_true rfl⟩) | (intro hg; first | (simp; first | done | fail) | (simp at hg ⊢; exact hg) | (simp at hg; exact hg) | exact hg))); (conv => whnf))
    | ((with_reducible apply And.intro) <;> (intro hb; (try simp at hb); (try (exfalso; first | omega | (simp_all; first | done | fail))); (try (conv => whnf))))
  (try (any_goals (refine Side.mk ⟨rfl, ?_, ?_⟩ <;> (simp [maxLen]; omega))))
  · rw [distI, if_neg (by rcases hb with h | h <;> simp [h])]
  · rw [distI, if_pos (by simp [hb])]
end Go.Proofs
end
section
/- Contracts: arcs. -/
namespace Go.Proofs
open Go.Pm
set_option maxRecDepth 100000
set_option maxHeartbeats 4000000

structure Arc where
  src : Str
  dst : Str
  way : Str
  len : Int
deriving DecidableEq
instance : Inhabited Arc := ⟨⟨[], [], [], 0⟩⟩
def encArc (a : Arc) : D := .agg [.str a.src, .str a.dst, .str a.way, .int .i64 a.len]
def encArcs (L : List Arc) : D := encL 4 default encArc L
theorem encArc_eq (a b : Arc) : dEq (encArc a) (encArc b) = decide (a = b) := by
  obtain ⟨a1, a2, a3, a4⟩ := a
  obtain ⟨b1, b2, b3, b4⟩ := b
  show (a1 == b1 && (a2 == b2 && (a3 == b3 && (a4 == b4 && true)))) = _
  rw [Bool.eq_iff_iff]
  simp
def nodePt (m : List Obj) (id : Str) : Pt := (((nodeG m id).getD default).x, ((nodeG m id).getD default).y)
def arcLen (m : List Obj) (a b : Str) : Int := max 1 (rootI (distI (nodePt m a) (nodePt m b)))
def arcsAt (m : List Obj) (o : Obj) (l : List Str) (i : Nat) : List Arc :=
  [⟨l.getD i [], l.getD (i + 1) [], o.id, arcLen m (l.getD i []) (l.getD (i + 1) [])⟩, ⟨l.getD (i + 1) [], l.getD i [], o.id, arcLen m (l.getD i []) (l.getD (i + 1) [])⟩]
def arcsW (m : List Obj) (o : Obj) : List Arc := if o.kind = 2 then (List.range ((wayR m o.id).length - 1)).flatMap (arcsAt m o (wayR m o.id)) else []
def arcsRaw (m l : List Obj) : List Arc := l.flatMap (arcsW m)
def addNew (acc : List Arc) (a : Arc) : List Arc := if a ∈ acc then acc else acc ++ [a]
def nubA (l : List Arc) : List Arc := l.foldl addNew []
def arcsN (m : List Obj) : List Arc := if mapB m then nubA (arcsRaw m m) else []
def seenH (acc : List Arc) : Ents := histE encArc (acc.map fun a => (a, D.bool true))
theorem seen_find (acc : List Arc) (a : Arc) : findE (encArc a) (seenH acc).1 = cond (decide (a ∈ acc)) (some (.bool true)) none := by
  rw [seenH, histE_find encArc_eq]
  induction acc using snoc_ind with
  | nil => rfl
  | snoc l b ih =>
    rw [List.map_append, List.map_cons, List.map_nil, lastV_snoc, ih]
    by_cases h : b = a
    · simp [h]
    · simp [h, Ne.symm h]
theorem ways_no {m : List Obj} {id : Str} (h : (wayG m m id).isSome = false) : findE (.str id) (waysF m m).1 = cond false (some (encStrs (wayR m id))) none := by
  rw [ways_find, h]; rfl
theorem nodes_yes {m : List Obj} {id : Str} (h : (nodeG m id).isSome = true) : findE (.str id) (nodesF m).1 = cond true (some (encPt (nodePt m id))) none := by
  rw [nodes_find, h]; rfl
def accN (m l0 : List Obj) (o : Obj) (j : Nat) : List Arc := ((List.range j).flatMap (arcsAt m o (wayR m o.id))).foldl addNew (nubA (arcsRaw m l0))
theorem accN_step (m l0 : List Obj) (o : Obj) (j : Nat) : accN m l0 o (j + 1) = addNew (addNew (accN m l0 o j) ⟨(wayR m o.id).getD j [], (wayR m o.id).getD (j + 1) [], o.id, arcLen m ((wayR m o.id).getD j []) ((wayR m o.id).getD (j + 1) [])⟩)
    ⟨(wayR m o.id).getD (j + 1) [], (wayR m o.id).getD j [], o.id, arcLen m ((wayR m o.id).getD j []) ((wayR m o.id).getD (j + 1) [])⟩ := by
  unfold accN
  rw [List.range_succ, List.flatMap_append, List.foldl_append]
  rfl
theorem addNew_len (acc : List Arc) (a : Arc) : (addNew acc a).length ≤ acc.length + 1 := by
  unfold addNew; split <;> simp
theorem foldNew_len (l acc : List Arc) : (l.foldl addNew acc).length ≤ acc.length + l.length := by
  induction l generalizing acc with
  | nil => simp
  | cons a l ih =>
    rw [List.foldl_cons]
    have := ih (addNew acc a)
    have := addNew_len acc a
    simp only [List.length_cons]; omega
theorem rangeArcs_len (m : List Obj) (o : Obj) (l : List Str) (j : Nat) : ((List.range j).flatMap (arcsAt m o l)).length = 2 * j := by
  induction j with
  | zero => rfl
  | succ j ih => rw [List.range_succ, List.flatMap_append, List.length_append, ih]; simp [arcsAt]; omega
theorem arcsRaw_step {m0 m : List Obj} {i : Nat} (h : i < m.length) : nubA (arcsRaw m0 (m.take (i + 1))) = (arcsW m0 (m.getD i default)).foldl addNew (nubA (arcsRaw m0 (m.take i))) := by
  rw [take_succ_getD m i default h, arcsRaw, List.flatMap_append]
  show List.foldl addNew [] (arcsRaw m0 (m.take i) ++ (arcsW m0 (m.getD i default) ++ [])) = _
  rw [List.append_nil, List.foldl_append]
  rfl
theorem arcsW_len {m : List Obj} (hm : mapB m = true) (o : Obj) : (arcsW m o).length ≤ 4000 := by
  unfold arcsW
  split
  · rw [rangeArcs_len]
    cases hw : (wayG m m o.id).isSome with
    | true => have := (way_len hm hw).2; unfold wayR; omega
    | false =>
      have : wayR m o.id = [] := by
        unfold wayR
        cases h : wayG m m o.id with
        | none => rfl
        | some x => rw [h] at hw; cases hw
      rw [this]; simp
  · simp
theorem arcsRaw_len {m : List Obj} (hm : mapB m = true) (l : List Obj) : (arcsRaw m l).length ≤ 4000 * l.length := by
  induction l with
  | nil => simp [arcsRaw]
  | cons o l ih =>
    have : arcsRaw m (o :: l) = arcsW m o ++ arcsRaw m l := rfl
    rw [this, List.length_append, List.length_cons]
    have := arcsW_len hm o
    omega
theorem accN_len {m l0 : List Obj} (hm : mapB m = true) (o : Obj) (j : Nat) : (accN m l0 o j).length ≤ 4000 * l0.length + 2 * j := by
  have h1 := foldNew_len ((List.range j).flatMap (arcsAt m o (wayR m o.id))) (nubA (arcsRaw m l0))
  have h2 := foldNew_len (arcsRaw m l0) []
  rw [rangeArcs_len] at h1
  have := arcsRaw_len hm l0
  unfold accN
  unfold nubA at h1 ⊢
  simp only [List.length_nil] at h2
  omega
theorem way_nodes {m : List Obj} {id : Str} (h : (wayG m m id).isSome = true) : ∀ k : Int, 0 ≤ k → k < (wayR m id).length → (nodeG m ((wayR m id).getD k.toNat [])).isSome = true := by
  intro k h0 h1
  cases hw : wayG m m id with
  | none => rw [hw] at h; cases h
  | some o =>
    have e : wayR m id = o.refs := by unfold wayR; rw [hw]; rfl
    rw [e] at h1 ⊢
    obtain ⟨_, h2, _⟩ := lastBy_some hw
    simp only [wayP, Bool.and_eq_true, List.all_eq_true] at h2
    refine h2.2 _ ?_
    have hk : k.toNat < o.refs.length := by omega
    rw [List.getD_eq_getElem?_getD, List.getElem?_eq_getElem hk]
    exact List.getElem_mem hk
theorem distI_rng (p q : Pt) : rng .i64 (distI p q) := by
  have := distI_bound p q
  simp only [rng]; omega
theorem map_len6 {m : List Obj} (hm : mapB m = true) : m.length ≤ 1000000 := by simp only [mapB, Bool.and_eq_true, decide_eq_true_eq] at hm; exact hm.2
theorem arcsW_no {m0 m : List Obj} {i : Nat} (h : ¬(m[i]?.getD default).kind = 2) : arcsW m0 (m.getD i default) = [] := by
  rw [← List.getD_eq_getElem?_getD] at h
  rw [arcsW, if_neg h]
theorem arcsW_yes {m0 m : List Obj} {i : Nat} (h : (m[i]?.getD default).kind = 2) : arcsW m0 (m.getD i default) = (List.range ((wayR m0 (m.getD i default).id).length - 1)).flatMap (arcsAt m0 (m.getD i default) (wayR m0 (m.getD i default).id)) := by
  rw [← List.getD_eq_getElem?_getD] at h
  rw [arcsW, if_pos h]
theorem wayR_no {m : List Obj} {id : Str} (hw : (wayG m m id).isSome = false) : wayR m id = [] := by
  unfold wayR
  cases h : wayG m m id with
  | none => rfl
  | some x => rw [h] at hw; cases hw
theorem ole_map {sh : KSh} {e e' : Ents} (h : e = e') : OLe (.map sh e.1 e.2) (.map sh e'.1 e'.2) := OLe.of (by rw [h])
theorem ole_row {t : TypeId} {sz v : Nat} {l l' : List D} (h : l = l') : OLe (.row t sz l v) (.row t sz l' v) := OLe.of (by rw [h])
theorem seenH_snoc (acc : List Arc) (a : Arc) : seenH (acc ++ [a]) = addM (encArc a) (.bool true) (seenH acc) := by
  rw [seenH, List.map_append]; exact histE_snoc _ _ _ _
def lenG (r : Int) : Int := bif true then if r > 1 then r else 1 else if r < 1 then r else 1
theorem lenG_eq (r : Int) : lenG r = max 1 r := by simp only [lenG, cond_true]; split <;> omega
def arcU (m : List Obj) (L : List Str) (id : Str) (j : Nat) : D := .agg [.str (L.getD ((j : Int) + 1 - 1).toNat []), .str (L.getD ((j : Int) + 1).toNat []), .str id, .int .i64 (lenG (rootI (distI (nodePt m (L.getD ((j : Int) + 1 - 1).toNat [])) (nodePt m (L.getD ((j : Int) + 1).toNat [])))))]
def arcV (m : List Obj) (L : List Str) (id : Str) (j : Nat) : D := .agg [.str (L.getD ((j : Int) + 1).toNat []), .str (L.getD ((j : Int) + 1 - 1).toNat []), .str id, .int .i64 (lenG (rootI (distI (nodePt m (L.getD ((j : Int) + 1 - 1).toNat [])) (nodePt m (L.getD ((j : Int) + 1).toNat [])))))]
def arc1 (m : List Obj) (L : List Str) (id : Str) (j : Nat) : Arc := ⟨L.getD j [], L.getD (j + 1) [], id, arcLen m (L.getD j []) (L.getD (j + 1) [])⟩
def arc2 (m : List Obj) (L : List Str) (id : Str) (j : Nat) : Arc := ⟨L.getD (j + 1) [], L.getD j [], id, arcLen m (L.getD j []) (L.getD (j + 1) [])⟩
theorem toNat1 (j : Nat) : ((j : Int) + 1 - 1).toNat = j ∧ ((j : Int) + 1).toNat = j + 1 := by omega
theorem arcU_eq (m : List Obj) (L : List Str) (id : Str) (j : Nat) : arcU m L id j = encArc (arc1 m L id j) := by
  unfold arcU; rw [(toNat1 j).1, (toNat1 j).2, lenG_eq]; rfl
theorem arcV_eq (m : List Obj) (L : List Str) (id : Str) (j : Nat) : arcV m L id j = encArc (arc2 m L id j) := by
  unfold arcV; rw [(toNat1 j).1, (toNat1 j).2, lenG_eq]; rfl
theorem c19 (m : List Obj) : PCall Try.prog 19 [.d (encMap m)] fun x => x = .d (encArcs (arcsN m)) := by
  refine PCall.res ?_ rfl
  refine PCall.intro Try.tabOk Try.f19 _ Try.func19 rfl (by decide) rfl fun z => ?_
  cases hm : mapB m with
  | false =>
    have c46f : PCall Try.prog 46 [.d (encMap m)] fun x => x = .tup [.d .nilp, .d (.bool false)] := by have := c46 m; rwa [hm] at this
    repeat' first
      | (with_reducible refine AW.seq ?_)
      | ((with_reducible refine AW.region Try.tabOk ?_); (conv => whnf))
      | ((with_reducible refine AW.ret ?_); (conv => whnf))
      | ((with_reducible refine AW.cond ?_); (conv => whnf))
      | ((with_reducible refine ACall.id ?_); (refine PCall.call (by first | exact c46f) rfl ?_); (intro x hx; first | subst hx | (obtain ⟨l_, rfl, hl_⟩ := hx.out)); (conv => whnf))
      | ((with_reducible apply And.intro) <;> (intro hb; (try simp at hb); (try (exfalso; first | omega | (simp_all; first | done | fail))); (try (conv => whnf))))
    (try (any_goals (refine Side.mk ⟨rfl, ?_, ?_⟩ <;> (simp [maxLen]; omega))))
    exact .nils (by simp [arcsN, hm])
  | true =>
  have c46t : PCall Try.prog 46 [.d (encMap m)] fun x => x = .tup [.d (netD m), .d (.bool true)] := by have := c46 m; rwa [hm] at this
  repeat' first
    | (with_reducible refine AW.seq ?_)
    | ((with_reducible refine AW.region Try.tabOk ?_); (conv => whnf))
    | ((with_reducible refine AW.ret ?_); (conv => whnf))
    | ((with_reducible refine AW.block ?_))
    | ((with_reducible refine AW.skip ?_); (conv => whnf))
    | ((with_reducible refine AW.cond ?_); (conv => whnf))
    | ((with_reducible refine AW.rangeFunc rfl ?_); intro fn_; (conv => whnf); (refine And.intro ⟨Try.f87, Try.func87, by decide, rfl⟩ ?_); (refine ACall.intro Try.tabOk Try.f87 _ Try.func87 rfl (by decide) rfl ?_); intro z_)
    | ((with_reducible refine ACall.id ?_); (refine PCall.call (by first | exact c46t) rfl ?_); (intro x hx; first | subst hx | (obtain ⟨l_, rfl, hl_⟩ := hx.out)); (conv => whnf))
    | ((with_reducible refine ACall.id ?_); (refine ACall.intro Try.tabOk Try.f53 _ Try.func53 rfl (by decide) rfl ?_); intro z_)
    | ((with_reducible apply And.intro); (focus (first | omega | assumption | (exact True.intro) | (simp; omega) | (exact Nat.le_of_ble_eq_true rfl) | (exact ⟨rfl, Nat.le_of_ble_eq_true rfl⟩) | (exact ⟨Nat.le_of_ble_eq_true rfl, Nat.le_of_ble_eq_true rfl⟩) | (intro hg; first | (simp; first | done | fail) | (simp at hg ⊢; exact hg) | (simp at hg; exact hg) | exact hg))); (conv => whnf))
    | ((with_reducible apply And.intro) <;> (intro hb; (try simp at hb); (try (exfalso; first | omega | (simp_all; first | done | fail))); (try (conv => whnf))))
    | (intro hlen; (conv => whnf))
  (try (any_goals (refine Side.mk ⟨rfl, ?_, ?_⟩ <;> (simp [maxLen]; omega))))
  refine AW.growV 1 0 49 4 rfl rfl rfl rfl ?_
  refine AW.loopS (X := Nat × Nat) [12, 11, 0, 1] [5, 4, 3, 0] (fun x => [(13, .d (.int .i64 (x.1 : Int)))]) (fun x => [(2, .map (.agg [.str, .str, .str, .int .i64]) (seenH (nubA (arcsRaw m (m.take x.1)))).1 (seenH (nubA (arcsRaw m (m.take x.1)))).2), (1, .var [.own 6 (x.2 + 1) 4] 31), (6, .row 49 4 ((nubA (arcsRaw m (m.take x.1))).map encArc) (x.2 + 1))]) (fun _ => 7)
    (fun x => x.1 ≤ m.length) (fun x => m.length - x.1) (0, 0) (Nat.zero_le _) (fun _ _ => rfl) (by refine ⟨rfl, rfl, rfl, ?_, ?_⟩ <;> repeat' (first | exact trivial | exact OLe.refl _ | exact AV.le_refl _ | apply And.intro)) ?_
  intro ⟨i, v⟩ hi
  dsimp only at hi ⊢
  cases hw : (wayG m m (m.getD (i : Int).toNat default).id).isSome with
  | true =>
    have hnd := way_nodes hw
    repeat' first
      | (with_reducible refine AW.seq ?_)
      | ((with_reducible refine AW.region Try.tabOk ?_); (conv => whnf))
      | ((with_reducible refine AW.draw Try.tabOk Try.mixed ?_ ?_); (focus rfl); (conv => whnf))
      | ((with_reducible refine AW.ret ?_); (conv => whnf))
      | ((with_reducible refine AW.block ?_))
      | ((with_reducible refine AW.exit ?_); (conv => whnf))
      | ((with_reducible refine AW.skip ?_); (conv => whnf))
      | ((with_reducible refine AW.cond ?_); (conv => whnf))
      | (refine ⟨_, ⟨rfl, rfl⟩, ?_⟩; (conv => whnf))
      | (apply Exists.intro; apply And.intro; (focus (first | (intro hg; (conv => whnf)) | (conv => whnf)); (repeat' first | (with_reducible exact ⟨rfl, rfl⟩) | ((with_reducible refine Own2.data ?_); (conv => whnf)) | (refine ⟨true, _, rfl, ?_⟩; (conv => whnf)) | (refine ⟨false, .nilp, rfl, ?_⟩; (conv => whnf)) | (refine ⟨_, _, by first | exact ways_yes hw, ?_⟩; (conv => whnf)) | ((with_reducible apply Or.inl); (refine ⟨rfl, rfl, ?_⟩); (conv => whnf)) | ((with_reducible apply Or.inl); (with_reducible apply And.intro); (focus (first | assumption | (simp only [rng]; omega) | (simp [rng, IntKind.bits]; omega))); (conv => whnf)) | (refine ⟨by first | omega | (simp; omega) | (simp at hg ⊢; omega) | (simp_all; first | done | fail), ?_⟩; (conv => whnf)) | ((with_reducible refine ACall.id ?_); (refine PCall.call (by first | exact ways_yes hw) rfl ?_); (intro x hx; first | subst hx | (obtain ⟨l_, rfl, hl_⟩ := hx.out)); (conv => whnf)) | ((with_reducible apply Or.inr); (with_reducible exact ⟨rfl, rfl⟩)) | ((with_reducible apply Or.inr); (with_reducible apply And.intro) <;> (intro hb_; first | (cases hb_; done) | (conv => whnf))) | (intro hlen; (conv => whnf))); done); (conv => whnf))
      | ((with_reducible apply Or.inl); (with_reducible apply And.intro); (focus (first | assumption | (simp only [rng]; omega) | (simp [rng, IntKind.bits]; omega))); (conv => whnf))
      | ((with_reducible apply And.intro); (focus (first | omega | assumption | (exact True.intro) | (simp; omega) | (exact Nat.le_of_ble_eq_true rfl) | (exact ⟨rfl, Nat.le_of_ble_eq_true rfl⟩) | (exact ⟨Nat.le_of_ble_eq_true rfl, Nat.le_of_ble_eq_true rfl⟩) | (intro hg; first | (simp; first | done | fail) | (simp at hg ⊢; exact hg) | (simp at hg; exact hg) | exact hg))); (conv => whnf))
      | ((with_reducible apply And.intro) <;> (intro hb; (try simp at hb); (try (exfalso; first | omega | (simp_all; first | done | fail))); (try (conv => whnf))))
    (try (any_goals (refine Side.mk ⟨rfl, ?_, ?_⟩ <;> (simp [maxLen]; omega))))
    · have hit : i < m.length := by assumption
      have hk : ¬(m[i]?.getD default).kind = 2 := by assumption
      have hst := arcsRaw_step (m0 := m) hit
      rw [arcsW_no hk, List.foldl_nil] at hst
      exact .mk (i + 1, v) hit (by show m.length - (i + 1) < m.length - i; omega) ⟨rfl, rfl, rfl, ⟨ole_map (congrArg seenH hst.symm), OLe.refl _, ole_row (congrArg (List.map encArc) hst.symm), OLe.refl _, OLe.refl _, OLe.refl _, OLe.refl _, trivial⟩, ⟨AV.le_refl _, AV.le_refl _, AV.le_refl _, AV.le_refl _, AV.le_refl _, trivial⟩, rfl⟩
    · obtain ⟨o, ho⟩ : ∃ o, o = m.getD i default := ⟨_, rfl⟩
      obtain ⟨L, hL⟩ : ∃ L, L = wayR m o.id := ⟨_, rfl⟩
      have hl2 : 2 ≤ L.length ∧ L.length ≤ 2000 := by subst hL ho; exact way_len hm hw
      have hnd : ∀ k : Int, 0 ≤ k → k < L.length → (nodeG m (L.getD k.toNat [])).isSome = true := by subst hL ho; exact way_nodes hw
      have hm6 := map_len6 hm
      refine AW.loopS (X := Nat × Nat) [4, 13, 12, 11, 0, 1] [5, 4, 3, 0] (fun x => [(5, .d (encStrs L)), (6, .d (.int .i64 ((x.1 : Int) + 1)))]) (fun x => [(7, .var [.d (.str o.id), .d (.int .i64 o.kind), .d (.int .i64 o.x), .d (.int .i64 o.y), .d (encStrs o.refs), .d (encTags o.tags)] 42), (2, .map (.agg [.str, .str, .str, .int .i64]) (seenH (accN m (m.take i) o x.1)).1 (seenH (accN m (m.take i) o x.1)).2), (1, .var [.own 6 (x.2 + 1) 4] 31), (6, .row 49 4 ((accN m (m.take i) o x.1).map encArc) (x.2 + 1))]) (fun _ => 8)
        (fun x => x.1 + 1 ≤ L.length) (fun x => L.length - x.1) (0, v) (by show 1 ≤ L.length; omega) (fun _ _ => rfl) (by subst hL ho; exact (by refine ⟨rfl, rfl, rfl, ?_, ?_⟩ <;> repeat' (first | exact trivial | exact OLe.refl _ | exact AV.le_refl _ | apply And.intro))) ?_
      intro ⟨j, v'⟩ hj
      dsimp only at hj ⊢
      have hll := accN_len (l0 := m.take i) hm o j
      rw [List.length_take] at hll
      have hst : accN m (m.take i) o (j + 1) = addNew (addNew (accN m (m.take i) o j) (arc1 m L o.id j)) (arc2 m L o.id j) := by subst hL; exact accN_step _ _ _ _
      generalize hacc : accN m (m.take i) o j = acc at hll hst ⊢
      have f1 : findE (arcU m L o.id j) (seenH acc).1 = cond (decide (arc1 m L o.id j ∈ acc)) (some (.bool true)) none := by rw [arcU_eq]; exact seen_find _ _
      have f3 : findE (arcV m L o.id j) (seenH acc).1 = cond (decide (arc2 m L o.id j ∈ acc)) (some (.bool true)) none := by rw [arcV_eq]; exact seen_find _ _
      have f2 : findE (arcV m L o.id j) (updE (arcU m L o.id j) (.bool true) (seenH acc).2 (seenH acc).1) = cond (decide (arc2 m L o.id j ∈ acc ++ [arc1 m L o.id j])) (some (.bool true)) none := by
        rw [arcV_eq, arcU_eq]; have := seen_find (acc ++ [arc1 m L o.id j]) (arc2 m L o.id j); rwa [seenH_snoc] at this
      have s1 : seenH (acc ++ [arc1 m L o.id j]) = addM (arcU m L o.id j) (.bool true) (seenH acc) := by rw [arcU_eq]; exact seenH_snoc _ _
      have s2 : seenH (acc ++ [arc2 m L o.id j]) = addM (arcV m L o.id j) (.bool true) (seenH acc) := by rw [arcV_eq]; exact seenH_snoc _ _
      have s12 : seenH (acc ++ [arc1 m L o.id j] ++ [arc2 m L o.id j]) = addM (arcV m L o.id j) (.bool true) (addM (arcU m L o.id j) (.bool true) (seenH acc)) := by rw [← s1, arcV_eq]; exact seenH_snoc _ _
      repeat' first
        | (with_reducible refine AW.seq ?_)
        | ((with_reducible refine AW.region Try.tabOk ?_); (conv => whnf))
        | ((with_reducible refine AW.drawP Try.tabOk Try.mixed ?_ ?_); (focus rfl); (conv => whnf))
        | ((with_reducible refine AW.block ?_))
        | ((with_reducible refine AW.exit ?_); (conv => whnf))
        | ((with_reducible refine AW.skip ?_); (conv => whnf))
        | ((with_reducible refine AW.cond ?_); (conv => whnf))
        | ((with_reducible refine AYield.id ?_); (refine AYield.intro rfl rfl rfl ?_); intro z_)
        | ((with_reducible refine Own2.data ?_); (conv => whnf))
        | ((with_reducible refine ACall.id ?_); (refine PCall.call (by first | exact nodes_yes (hnd _ (by omega) (by omega)) | exact f1 | exact f2 | exact f3 | exact c89 _ _ | exact c88 _ (distI_rng _ _)) rfl ?_); (intro x hx; first | subst hx | (obtain ⟨l_, rfl, hl_⟩ := hx.out)); (conv => whnf))
        | (refine ⟨_, _, by first | exact nodes_yes (hnd _ (by omega) (by omega)) | exact f1 | exact f2 | exact f3 | exact c89 _ _ | exact c88 _ (distI_rng _ _), ?_⟩; (conv => whnf))
        | ((with_reducible apply Or.inl); (refine ⟨rfl, rfl, ?_⟩); (conv => whnf))
        | (refine ⟨_, ⟨rfl, rfl⟩, ?_⟩; (conv => whnf))
        | (apply Exists.intro; apply And.intro; (focus (first | (intro hg; (conv => whnf)) | (conv => whnf)); (repeat' first | (with_reducible exact ⟨rfl, rfl⟩) | ((with_reducible refine Own2.data ?_); (conv => whnf)) | (refine ⟨true, _, rfl, ?_⟩; (conv => whnf)) | (refine ⟨false, .nilp, rfl, ?_⟩; (conv => whnf)) | (refine ⟨_, _, by first | exact nodes_yes (hnd _ (by omega) (by omega)) | exact f1 | exact f2 | exact f3 | exact c89 _ _ | exact c88 _ (distI_rng _ _), ?_⟩; (conv => whnf)) | ((with_reducible apply Or.inl); (refine ⟨rfl, rfl, ?_⟩); (conv => whnf)) | ((with_reducible apply Or.inl); (with_reducible apply And.intro); (focus (first | assumption | (simp only [rng]; omega) | (simp [rng, IntKind.bits]; omega))); (conv => whnf)) | (refine ⟨by first | omega | (simp; omega) | (simp at hg ⊢; omega) | (simp_all; first | done | fail), ?_⟩; (conv => whnf)) | ((with_reducible refine ACall.id ?_); (refine PCall.call (by first | exact nodes_yes (hnd _ (by omega) (by omega)) | exact f1 | exact f2 | exact f3 | exact c89 _ _ | exact c88 _ (distI_rng _ _)) rfl ?_); (intro x hx; first | subst hx | (obtain ⟨l_, rfl, hl_⟩ := hx.out)); (conv => whnf)) | ((with_reducible apply Or.inr); (with_reducible exact ⟨rfl, rfl⟩)) | ((with_reducible apply Or.inr); (with_reducible apply And.intro) <;> (intro hb_; first | (cases hb_; done) | (conv => whnf))) | (intro hlen; (conv => whnf))); done); (conv => whnf))
        | ((with_reducible apply Or.inl); (with_reducible apply And.intro); (focus (first | assumption | (simp only [rng]; omega) | (simp [rng, IntKind.bits]; omega))); (conv => whnf))
        | ((with_reducible apply And.intro); (focus (first | omega | assumption | (exact True.intro) | (simp; omega) | (exact Nat.le_of_ble_eq_true rfl) | (exact ⟨rfl, Nat.le_of_ble_eq_true rfl⟩) | (exact ⟨Nat.le_of_ble_eq_true rfl, Nat.le_of_ble_eq_true rfl⟩) | (intro hg; first | (simp; first | done | fail) | (simp at hg ⊢; exact hg) | (simp at hg; exact hg) | exact hg))); (conv => whnf))
        | ((with_reducible apply And.intro) <;> (intro hb; (try simp at hb); (try (exfalso; first | omega | (simp_all; first | done | fail))); (try (conv => whnf))))
        | (intro hlen; (conv => whnf))
        | ((with_reducible refine And.intro (Side.out ?_) ?_); rotate_left; (conv => whnf); rotate_right)
      (try (any_goals (refine Side.mk ⟨rfl, ?_, ?_⟩ <;> (simp [maxLen]; omega))))
      · have n1 : ¬arc1 m L o.id j ∈ acc := by assumption
        have n2 : ¬arc2 m L o.id j ∈ acc ∧ ¬arc2 m L o.id j = arc1 m L o.id j := by assumption
        have e12 : accN m (m.take i) o (j + 1) = acc ++ [arc1 m L o.id j] ++ [arc2 m L o.id j] := by rw [hst]; simp [addNew, n1, n2]
        have q1 : addM (arcV m L o.id j) (.bool true) (addM (arcU m L o.id j) (.bool true) (seenH acc)) = seenH (accN m (m.take i) o (j + 1)) := by rw [e12, s12]
        have q2 : acc.map encArc ++ [arcU m L o.id j] ++ [arcV m L o.id j] = (accN m (m.take i) o (j + 1)).map encArc := by rw [e12]; simp [arcU_eq, arcV_eq]
        exact .mk (j + 1, v' + 2) (by show j + 1 + 1 ≤ L.length; omega) (by show L.length - (j + 1) < L.length - j; omega) ⟨rfl, rfl, rfl, ⟨OLe.refl _, ole_map q1, OLe.refl _, ole_row q2, OLe.refl _, OLe.refl _, OLe.refl _, OLe.refl _, trivial⟩, ⟨AV.le_refl _, AV.le_refl _, AV.le_refl _, AV.le_refl _, AV.le_refl _, AV.le_refl _, AV.le_refl _, AV.le_refl _, trivial⟩, rfl⟩
      · have n1 : ¬arc1 m L o.id j ∈ acc := by assumption
        have n2 : ¬arc2 m L o.id j ∈ acc → arc2 m L o.id j = arc1 m L o.id j := by assumption
        have e12 : accN m (m.take i) o (j + 1) = acc ++ [arc1 m L o.id j] := by
          have hin : arc2 m L o.id j ∈ acc ++ [arc1 m L o.id j] := by
            by_cases h : arc2 m L o.id j ∈ acc
            · simp [h]
            · simp [n2 h]
          have h1 : addNew acc (arc1 m L o.id j) = acc ++ [arc1 m L o.id j] := by simp [addNew, n1]
          rw [hst, h1]
          simp only [addNew, if_pos hin]
        have q1 : addM (arcU m L o.id j) (.bool true) (seenH acc) = seenH (accN m (m.take i) o (j + 1)) := by rw [e12, s1]
        have q2 : acc.map encArc ++ [arcU m L o.id j] = (accN m (m.take i) o (j + 1)).map encArc := by rw [e12]; simp [arcU_eq]
        exact .mk (j + 1, v' + 1) (by show j + 1 + 1 ≤ L.length; omega) (by show L.length - (j + 1) < L.length - j; omega) ⟨rfl, rfl, rfl, ⟨OLe.refl _, ole_map q1, OLe.refl _, ole_row q2, OLe.refl _, OLe.refl _, OLe.refl _, OLe.refl _, trivial⟩, ⟨AV.le_refl _, AV.le_refl _, AV.le_refl _, AV.le_refl _, AV.le_refl _, AV.le_refl _, AV.le_refl _, AV.le_refl _, trivial⟩, rfl⟩
      · have n1 : arc1 m L o.id j ∈ acc := by assumption
        have n2 : ¬arc2 m L o.id j ∈ acc := by assumption
        have e12 : accN m (m.take i) o (j + 1) = acc ++ [arc2 m L o.id j] := by rw [hst]; simp [addNew, n1, n2]
        have q1 : addM (arcV m L o.id j) (.bool true) (seenH acc) = seenH (accN m (m.take i) o (j + 1)) := by rw [e12, s2]
        have q2 : acc.map encArc ++ [arcV m L o.id j] = (accN m (m.take i) o (j + 1)).map encArc := by rw [e12]; simp [arcV_eq]
        exact .mk (j + 1, v' + 1) (by show j + 1 + 1 ≤ L.length; omega) (by show L.length - (j + 1) < L.length - j; omega) ⟨rfl, rfl, rfl, ⟨OLe.refl _, ole_map q1, OLe.refl _, ole_row q2, OLe.refl _, OLe.refl _, OLe.refl _, OLe.refl _, trivial⟩, ⟨AV.le_refl _, AV.le_refl _, AV.le_refl _, AV.le_refl _, AV.le_refl _, AV.le_refl _, AV.le_refl _, AV.le_refl _, trivial⟩, rfl⟩
      · have n1 : arc1 m L o.id j ∈ acc := by assumption
        have n2 : arc2 m L o.id j ∈ acc := by assumption
        have e12 : accN m (m.take i) o (j + 1) = acc := by rw [hst]; simp [addNew, n1, n2]
        have q1 : seenH acc = seenH (accN m (m.take i) o (j + 1)) := by rw [e12]
        have q2 : acc.map encArc = (accN m (m.take i) o (j + 1)).map encArc := by rw [e12]
        exact .mk (j + 1, v') (by show j + 1 + 1 ≤ L.length; omega) (by show L.length - (j + 1) < L.length - j; omega) ⟨rfl, rfl, rfl, ⟨OLe.refl _, ole_map q1, OLe.refl _, ole_row q2, OLe.refl _, OLe.refl _, OLe.refl _, OLe.refl _, trivial⟩, ⟨AV.le_refl _, AV.le_refl _, AV.le_refl _, AV.le_refl _, AV.le_refl _, AV.le_refl _, AV.le_refl _, AV.le_refl _, trivial⟩, rfl⟩
      · have hit : i < m.length := by assumption
        have hk : (m[i]?.getD default).kind = 2 := by assumption
        have hst2 := arcsRaw_step (m0 := m) hit
        rw [arcsW_yes hk, ← ho, ← hL, show L.length - 1 = j by omega] at hst2
        have hq : acc = nubA (arcsRaw m (m.take (i + 1))) := by rw [hst2, ← hacc, accN, ← hL]
        exact .mk (i + 1, v') hit (by show m.length - (i + 1) < m.length - i; omega) ⟨rfl, rfl, rfl, ⟨ole_map (congrArg seenH hq), OLe.refl _, ole_row (congrArg (List.map encArc) hq), OLe.refl _, OLe.refl _, OLe.refl _, OLe.refl _, trivial⟩, ⟨AV.le_refl _, AV.le_refl _, AV.le_refl _, AV.le_refl _, AV.le_refl _, trivial⟩, rfl⟩
    · have he : i = m.length := by omega
      subst he
      rw [List.take_length]
      exact .row (by rw [arcsN, hm, if_pos rfl])
  | false =>
    repeat' first
      | (with_reducible refine AW.seq ?_)
      | ((with_reducible refine AW.region Try.tabOk ?_); (conv => whnf))
      | ((with_reducible refine AW.draw Try.tabOk Try.mixed ?_ ?_); (focus rfl); (conv => whnf))
      | ((with_reducible refine AW.ret ?_); (conv => whnf))
      | ((with_reducible refine AW.block ?_))
      | ((with_reducible refine AW.exit ?_); (conv => whnf))
      | ((with_reducible refine AW.skip ?_); (conv => whnf))
      | ((with_reducible refine AW.cond ?_); (conv => whnf))
      | (refine ⟨_, ⟨rfl, rfl⟩, ?_⟩; (conv => whnf))
      | (apply Exists.intro; apply And.intro; (focus (first | (intro hg; (conv => whnf)) | (conv => whnf)); (repeat' first | (with_reducible exact ⟨rfl, rfl⟩) | ((with_reducible refine Own2.data ?_); (conv => whnf)) | (refine ⟨true, _, rfl, ?_⟩; (conv => whnf)) | (refine ⟨false, .nilp, rfl, ?_⟩; (conv => whnf)) | (refine ⟨_, _, by first | exact ways_no hw, ?_⟩; (conv => whnf)) | ((with_reducible apply Or.inl); (refine ⟨rfl, rfl, ?_⟩); (conv => whnf)) | ((with_reducible apply Or.inl); (with_reducible apply And.intro); (focus (first | assumption | (simp only [rng]; omega) | (simp [rng, IntKind.bits]; omega))); (conv => whnf)) | (refine ⟨by first | omega | (simp; omega) | (simp at hg ⊢; omega) | (simp_all; first | done | fail), ?_⟩; (conv => whnf)) | ((with_reducible refine ACall.id ?_); (refine PCall.call (by first | exact ways_no hw) rfl ?_); (intro x hx; first | subst hx | (obtain ⟨l_, rfl, hl_⟩ := hx.out)); (conv => whnf)) | ((with_reducible apply Or.inr); (with_reducible exact ⟨rfl, rfl⟩)) | ((with_reducible apply Or.inr); (with_reducible apply And.intro) <;> (intro hb_; first | (cases hb_; done) | (conv => whnf))) | (intro hlen; (conv => whnf))); done); (conv => whnf))
      | ((with_reducible apply Or.inl); (with_reducible apply And.intro); (focus (first | assumption | (simp only [rng]; omega) | (simp [rng, IntKind.bits]; omega))); (conv => whnf))
      | ((with_reducible apply And.intro); (focus (first | omega | assumption | (exact True.intro) | (simp; omega) | (exact Nat.le_of_ble_eq_true rfl) | (exact ⟨rfl, Nat.le_of_ble_eq_true rfl⟩) | (exact ⟨Nat.le_of_ble_eq_true rfl, Nat.le_of_ble_eq_true rfl⟩) | (intro hg; first | (simp; first | done | fail) | (simp at hg ⊢; exact hg) | (simp at hg; exact hg) | exact hg))); (conv => whnf))
      | ((with_reducible apply And.intro) <;> (intro hb; (try simp at hb); (try (exfalso; first | omega | (simp_all; first | done | fail))); (try (conv => whnf))))
    (try (any_goals (refine Side.mk ⟨rfl, ?_, ?_⟩ <;> (simp [maxLen]; omega))))
    · have hit : i < m.length := by assumption
      have hk : ¬(m[i]?.getD default).kind = 2 := by assumption
      have hst := arcsRaw_step (m0 := m) hit
      rw [arcsW_no hk, List.foldl_nil] at hst
      exact .mk (i + 1, v) hit (by show m.length - (i + 1) < m.length - i; omega) ⟨rfl, rfl, rfl, ⟨ole_map (congrArg seenH hst.symm), OLe.refl _, ole_row (congrArg (List.map encArc) hst.symm), OLe.refl _, OLe.refl _, OLe.refl _, OLe.refl _, trivial⟩, ⟨AV.le_refl _, AV.le_refl _, AV.le_refl _, AV.le_refl _, AV.le_refl _, trivial⟩, rfl⟩
    · have hit : i < m.length := by assumption
      have hk : (m[i]?.getD default).kind = 2 := by assumption
      have hw' : (wayG m m (m.getD i default).id).isSome = false := hw
      have hst : nubA (arcsRaw m (m.take (i + 1))) = nubA (arcsRaw m (m.take i)) := by rw [arcsRaw_step (m0 := m) hit, arcsW_yes hk, wayR_no hw']; rfl
      refine AW.loopS (X := Nat) [5, 6, 4, 13, 12, 11, 0, 1] [5, 4, 3, 0, 1] (fun _ => []) (fun _ => [(2, .map (.agg [.str, .str, .str, .int .i64]) (seenH (nubA (arcsRaw m (m.take i)))).1 (seenH (nubA (arcsRaw m (m.take i)))).2), (6, .row 49 4 ((nubA (arcsRaw m (m.take i))).map encArc) (v + 1))]) (fun _ => 8)
        (fun _ => True) (fun _ => 0) 0 trivial (fun _ _ => rfl) (by refine ⟨rfl, rfl, rfl, ?_, ?_⟩ <;> repeat' (first | exact trivial | exact OLe.refl _ | exact AV.le_refl _ | apply And.intro)) ?_
      intro _ _
      dsimp only
      repeat' first
        | (with_reducible refine AW.seq ?_)
        | ((with_reducible refine AW.region Try.tabOk ?_); (conv => whnf))
        | ((with_reducible refine AW.exit ?_); (conv => whnf))
        | ((with_reducible refine AW.cond ?_); (conv => whnf))
        | ((with_reducible apply Or.inl); (with_reducible apply And.intro); (focus (first | assumption | (simp only [rng]; omega) | (simp [rng, IntKind.bits]; omega))); (conv => whnf))
        | ((with_reducible apply And.intro) <;> (intro hb; (try simp at hb); (try (exfalso; first | omega | (simp_all; first | done | fail))); (try (conv => whnf))))
      (try (any_goals (refine Side.mk ⟨rfl, ?_, ?_⟩ <;> (simp [maxLen]; omega))))
      exact .mk (i + 1, v) hit (by show m.length - (i + 1) < m.length - i; omega) ⟨rfl, rfl, rfl, ⟨ole_map (congrArg seenH hst.symm), OLe.refl _, ole_row (congrArg (List.map encArc) hst.symm), OLe.refl _, OLe.refl _, OLe.refl _, OLe.refl _, trivial⟩, ⟨AV.le_refl _, AV.le_refl _, AV.le_refl _, AV.le_refl _, AV.le_refl _, trivial⟩, rfl⟩
    · have he : i = m.length := by omega
      subst he
      rw [List.take_length]
      exact .row (by rw [arcsN, hm, if_pos rfl])
end Go.Proofs
end
section
/- Contracts: what is allowed. -/
namespace Go.Proofs
open Go.Pm
set_option maxRecDepth 100000
set_option maxHeartbeats 4000000

theorem c60 (L M : List Str) : PCall Try.prog 60 [.d (encStrs L), .d (encStrs M)] fun x => x = .d (.bool (decide (L = M))) := by
  refine PCall.intro Try.tabOk Try.f60 _ Try.func60 rfl (by decide) rfl fun z => ?_
  repeat' first
    | (with_reducible refine AW.seq ?_)
    | ((with_reducible refine AW.region Try.tabOk ?_); (conv => whnf))
    | ((with_reducible refine AW.ret ?_); (conv => whnf))
    | ((with_reducible refine AW.block ?_))
    | ((with_reducible refine AW.skip ?_); (conv => whnf))
    | ((with_reducible refine AW.cond ?_); (conv => whnf))
    | ((with_reducible apply And.intro) <;> (intro hb; (try simp at hb); (try (exfalso; first | omega | (simp_all; first | done | fail))); (try (conv => whnf))))
    | (intro hlen; (conv => whnf))
  (try (any_goals (refine Side.mk ⟨rfl, ?_, ?_⟩ <;> (simp [maxLen]; omega))))
  · have hb : ¬(L.length : Int) = M.length := by assumption
    rw [decide_eq_false]
    intro e; subst e; exact hb rfl
  have hlm : L.length = M.length := by omega
  refine AW.loopS (X := Nat) [12, 0, 1] [] (fun i => [(13, .d (.int .i64 (i : Int)))]) (fun i => []) (fun _ => 0)
    (fun i => i ≤ L.length ∧ ∀ k, k < i → L.getD k [] = M.getD k []) (fun i => L.length - i) 0 ⟨Nat.zero_le _, fun k h => absurd h (Nat.not_lt_zero k)⟩ (fun _ _ => rfl) (by refine ⟨rfl, rfl, rfl, ?_, ?_⟩ <;> repeat' (first | exact trivial | exact OLe.refl _ | exact AV.le_refl _ | apply And.intro)) ?_
  intro i ⟨hi, hw⟩
  repeat' first
    | (with_reducible refine AW.seq ?_)
    | ((with_reducible refine AW.region Try.tabOk ?_); (conv => whnf))
    | ((with_reducible refine AW.draw Try.tabOk Try.mixed ?_ ?_); (focus rfl); (conv => whnf))
    | ((with_reducible refine AW.ret ?_); (conv => whnf))
    | ((with_reducible refine AW.block ?_))
    | ((with_reducible refine AW.exit ?_); (conv => whnf))
    | ((with_reducible refine AW.skip ?_); (conv => whnf))
    | ((with_reducible refine AW.cond ?_); (conv => whnf))
    | (refine ⟨_, ⟨rfl, rfl⟩, ?_⟩; (conv => whnf))
    | (apply Exists.intro; apply And.intro; (focus (first | (intro hg; (conv => whnf)) | (conv => whnf)); (repeat' first | (with_reducible exact ⟨rfl, rfl⟩) | ((with_reducible refine Own2.data ?_); (conv => whnf)) | (refine ⟨true, _, rfl, ?_⟩; (conv => whnf)) | (refine ⟨false, .nilp, rfl, ?_⟩; (conv => whnf)) | (refine ⟨_, _, by first | fail, ?_⟩; (conv => whnf)) | ((with_reducible apply Or.inl); (refine ⟨rfl, rfl, ?_⟩); (conv => whnf)) | ((with_reducible apply Or.inl); (with_reducible apply And.intro); (focus (first | assumption | (simp only [rng]; omega) | (simp [rng, IntKind.bits]; omega))); (conv => whnf)) | (refine ⟨by first | omega | (simp; omega) | (simp at hg ⊢; omega) | (simp_all; first | done | fail), ?_⟩; (conv => whnf)) | ((with_reducible refine ACall.id ?_); (refine PCall.call (by first | fail) rfl ?_); (intro x hx; first | subst hx | (obtain ⟨l_, rfl, hl_⟩ := hx.out)); (conv => whnf)) | ((with_reducible apply Or.inr); (with_reducible exact ⟨rfl, rfl⟩)) | ((with_reducible apply Or.inr); (with_reducible apply And.intro) <;> (intro hb_; first | (cases hb_; done) | (conv => whnf))) | (intro hlen; (conv => whnf))); done); (conv => whnf))
    | ((with_reducible apply Or.inl); (with_reducible apply And.intro); (focus (first | assumption | (simp only [rng]; omega) | (simp [rng, IntKind.bits]; omega))); (conv => whnf))
    | ((with_reducible apply And.intro) <;> (intro hb; (try simp at hb); (try (exfalso; first | omega | (simp_all; first | done | fail))); (try (conv => whnf))))
  (try (any_goals (refine Side.mk ⟨rfl, ?_, ?_⟩ <;> (simp [maxLen]; omega))))
  · have h : ¬L[i]?.getD [] = M[i]?.getD [] := by assumption
    rw [decide_eq_false]
    intro e; subst e; exact h rfl
  · exact .mk (i + 1) ⟨by assumption, upto_lt hw (by rw [List.getD_eq_getElem?_getD, List.getD_eq_getElem?_getD]; assumption)⟩ (by show L.length - (i + 1) < L.length - i; omega) (by refine ⟨rfl, rfl, rfl, ?_, ?_, rfl⟩ <;> repeat' (first | exact trivial | exact OLe.refl _ | exact AV.le_refl _ | apply And.intro))
  · have : L = M := by
      apply List.ext_getElem hlm
      intro k h1 h2
      have := hw k (by omega)
      rwa [List.getD_eq_getElem?_getD, List.getD_eq_getElem?_getD, List.getElem?_eq_getElem h1, List.getElem?_eq_getElem h2] at this
    rw [decide_eq_true this]
theorem c60l (L : List Str) (a b c : Str) : PCall Try.prog 60 [.d (encStrs L), .d (.list 1 [.str a, .str b, .str c])] fun x => x = .d (.bool (decide (L = [a, b, c]))) :=
  (c60 L [a, b, c]).le ⟨AV.le_refl _, AV.leL (by rfl), trivial⟩
def allowN (m : List Obj) (a v b : Str) : Bool := mapB m && ((wayR m a).contains v && ((wayR m b).contains v && !m.any fun o => decide (o.kind = 5) && decide (o.refs = [a, v, b])))
theorem c57n (v : Str) : PCall Try.prog 57 [.d .nils, .d (.str v)] fun x => x = .d (.bool false) := by
  have := (c57' [] v).le (args' := [.d .nils, .d (.str v)]) ⟨DLe.nils.av, AV.le_refl _, trivial⟩
  simpa using this
theorem c24 (m : List Obj) (a v b : Str) : PCall Try.prog 24 [.d (encMap m), .d (.str a), .d (.str v), .d (.str b)] fun x => x = .d (.bool (allowN m a v b)) := by
  refine PCall.intro Try.tabOk Try.f24 _ Try.func24 rfl (by decide) rfl fun z => ?_
  cases hm : mapB m with
  | false =>
    have c46f : PCall Try.prog 46 [.d (encMap m)] fun x => x = .tup [.d .nilp, .d (.bool false)] := by have := c46 m; rwa [hm] at this
    repeat' first
      | (with_reducible refine AW.seq ?_)
      | ((with_reducible refine AW.region Try.tabOk ?_); (conv => whnf))
      | ((with_reducible refine AW.draw Try.tabOk Try.mixed ?_ ?_); (focus rfl); (conv => whnf))
      | ((with_reducible refine AW.ret ?_); (conv => whnf))
      | ((with_reducible refine AW.cond ?_); (conv => whnf))
      | ((with_reducible refine ACall.id ?_); (refine PCall.call (by first | exact c46f) rfl ?_); (intro x hx; first | subst hx | (obtain ⟨l_, rfl, hl_⟩ := hx.out)); (conv => whnf))
      | (refine ⟨_, ⟨rfl, rfl⟩, ?_⟩; (conv => whnf))
      | (refine ⟨.d (.bool true), ?_, ?_⟩; (focus (intro hg; exfalso; revert hg; decide)); (conv => whnf))
      | (apply Exists.intro; apply And.intro; (focus (first | (intro hg; (conv => whnf)) | (conv => whnf)); (repeat' first | (with_reducible exact ⟨rfl, rfl⟩) | ((with_reducible refine Own2.data ?_); (conv => whnf)) | (refine ⟨true, _, rfl, ?_⟩; (conv => whnf)) | (refine ⟨false, .nilp, rfl, ?_⟩; (conv => whnf)) | (refine ⟨_, _, by first | exact c46f, ?_⟩; (conv => whnf)) | ((with_reducible apply Or.inl); (refine ⟨rfl, rfl, ?_⟩); (conv => whnf)) | ((with_reducible apply Or.inl); (with_reducible apply And.intro); (focus (first | assumption | (simp only [rng]; omega) | (simp [rng, IntKind.bits]; omega))); (conv => whnf)) | (refine ⟨by first | omega | (simp; omega) | (simp at hg ⊢; omega) | (simp_all; first | done | fail), ?_⟩; (conv => whnf)) | ((with_reducible refine ACall.id ?_); (refine PCall.call (by first | exact c46f) rfl ?_); (intro x hx; first | subst hx | (obtain ⟨l_, rfl, hl_⟩ := hx.out)); (conv => whnf)) | ((with_reducible apply Or.inr); (with_reducible exact ⟨rfl, rfl⟩)) | ((with_reducible apply Or.inr); (with_reducible apply And.intro) <;> (intro hb_; first | (cases hb_; done) | (conv => whnf))) | (intro hlen; (conv => whnf))); done); (conv => whnf))
      | ((with_reducible apply And.intro) <;> (intro hb; (try simp at hb); (try (exfalso; first | omega | (simp_all; first | done | fail))); (try (conv => whnf))))
    (try (any_goals (refine Side.mk ⟨rfl, ?_, ?_⟩ <;> (simp [maxLen]; omega))))
    rw [allowN, hm]; rfl
  | true =>
  have c46t : PCall Try.prog 46 [.d (encMap m)] fun x => x = .tup [.d (netD m), .d (.bool true)] := by have := c46 m; rwa [hm] at this
  cases h1 : (wayG m m a).isSome with
  | false =>
    repeat' first
      | (with_reducible refine AW.seq ?_)
      | ((with_reducible refine AW.region Try.tabOk ?_); (conv => whnf))
      | ((with_reducible refine AW.draw Try.tabOk Try.mixed ?_ ?_); (focus rfl); (conv => whnf))
      | ((with_reducible refine AW.ret ?_); (conv => whnf))
      | ((with_reducible refine AW.cond ?_); (conv => whnf))
      | ((with_reducible refine ACall.id ?_); (refine PCall.call (by first | exact c46t | exact ways_no h1 | exact c57n _) rfl ?_); (intro x hx; first | subst hx | (obtain ⟨l_, rfl, hl_⟩ := hx.out)); (conv => whnf))
      | (refine ⟨_, ⟨rfl, rfl⟩, ?_⟩; (conv => whnf))
      | (refine ⟨.d (.bool true), ?_, ?_⟩; (focus (intro hg; exfalso; revert hg; decide)); (conv => whnf))
      | (apply Exists.intro; apply And.intro; (focus (first | (intro hg; (conv => whnf)) | (conv => whnf)); (repeat' first | (with_reducible exact ⟨rfl, rfl⟩) | ((with_reducible refine Own2.data ?_); (conv => whnf)) | (refine ⟨true, _, rfl, ?_⟩; (conv => whnf)) | (refine ⟨false, .nilp, rfl, ?_⟩; (conv => whnf)) | (refine ⟨_, _, by first | exact c46t | exact ways_no h1 | exact c57n _, ?_⟩; (conv => whnf)) | ((with_reducible apply Or.inl); (refine ⟨rfl, rfl, ?_⟩); (conv => whnf)) | ((with_reducible apply Or.inl); (with_reducible apply And.intro); (focus (first | assumption | (simp only [rng]; omega) | (simp [rng, IntKind.bits]; omega))); (conv => whnf)) | (refine ⟨by first | omega | (simp; omega) | (simp at hg ⊢; omega) | (simp_all; first | done | fail), ?_⟩; (conv => whnf)) | ((with_reducible refine ACall.id ?_); (refine PCall.call (by first | exact c46t | exact ways_no h1 | exact c57n _) rfl ?_); (intro x hx; first | subst hx | (obtain ⟨l_, rfl, hl_⟩ := hx.out)); (conv => whnf)) | ((with_reducible apply Or.inr); (with_reducible exact ⟨rfl, rfl⟩)) | ((with_reducible apply Or.inr); (with_reducible apply And.intro) <;> (intro hb_; first | (cases hb_; done) | (conv => whnf))) | (intro hlen; (conv => whnf))); done); (conv => whnf))
      | ((with_reducible apply And.intro) <;> (intro hb; (try simp at hb); (try (exfalso; first | omega | (simp_all; first | done | fail))); (try (conv => whnf))))
    (try (any_goals (refine Side.mk ⟨rfl, ?_, ?_⟩ <;> (simp [maxLen]; omega))))
    rw [allowN, wayR_no h1]; simp
  | true =>
  cases h2 : (wayG m m b).isSome with
  | false =>
    repeat' first
      | (with_reducible refine AW.seq ?_)
      | ((with_reducible refine AW.region Try.tabOk ?_); (conv => whnf))
      | ((with_reducible refine AW.draw Try.tabOk Try.mixed ?_ ?_); (focus rfl); (conv => whnf))
      | ((with_reducible refine AW.ret ?_); (conv => whnf))
      | ((with_reducible refine AW.cond ?_); (conv => whnf))
      | ((with_reducible refine ACall.id ?_); (refine PCall.call (by first | exact c46t | exact ways_yes h1 | exact ways_no h2 | exact c57n _ | exact c57' _ _) rfl ?_); (intro x hx; first | subst hx | (obtain ⟨l_, rfl, hl_⟩ := hx.out)); (conv => whnf))
      | (refine ⟨_, ⟨rfl, rfl⟩, ?_⟩; (conv => whnf))
      | (apply Exists.intro; apply And.intro; (focus (first | (intro hg; (conv => whnf)) | (conv => whnf)); (repeat' first | (with_reducible exact ⟨rfl, rfl⟩) | ((with_reducible refine Own2.data ?_); (conv => whnf)) | (refine ⟨true, _, rfl, ?_⟩; (conv => whnf)) | (refine ⟨false, .nilp, rfl, ?_⟩; (conv => whnf)) | (refine ⟨_, _, by first | exact c46t | exact ways_yes h1 | exact ways_no h2 | exact c57n _ | exact c57' _ _, ?_⟩; (conv => whnf)) | ((with_reducible apply Or.inl); (refine ⟨rfl, rfl, ?_⟩); (conv => whnf)) | ((with_reducible apply Or.inl); (with_reducible apply And.intro); (focus (first | assumption | (simp only [rng]; omega) | (simp [rng, IntKind.bits]; omega))); (conv => whnf)) | (refine ⟨by first | omega | (simp; omega) | (simp at hg ⊢; omega) | (simp_all; first | done | fail), ?_⟩; (conv => whnf)) | ((with_reducible refine ACall.id ?_); (refine PCall.call (by first | exact c46t | exact ways_yes h1 | exact ways_no h2 | exact c57n _ | exact c57' _ _) rfl ?_); (intro x hx; first | subst hx | (obtain ⟨l_, rfl, hl_⟩ := hx.out)); (conv => whnf)) | ((with_reducible apply Or.inr); (with_reducible exact ⟨rfl, rfl⟩)) | ((with_reducible apply Or.inr); (with_reducible apply And.intro) <;> (intro hb_; first | (cases hb_; done) | (conv => whnf))) | (intro hlen; (conv => whnf))); done); (conv => whnf))
      | ((with_reducible apply And.intro) <;> (intro hb; (try simp at hb); (try (exfalso; first | omega | (simp_all; first | done | fail))); (try (conv => whnf))))
    (try (any_goals (refine Side.mk ⟨rfl, ?_, ?_⟩ <;> (simp [maxLen]; omega))))
    rw [allowN, wayR_no h2]; simp
  | true =>
    repeat' first
      | (with_reducible refine AW.seq ?_)
      | ((with_reducible refine AW.region Try.tabOk ?_); (conv => whnf))
      | ((with_reducible refine AW.draw Try.tabOk Try.mixed ?_ ?_); (focus rfl); (conv => whnf))
      | ((with_reducible refine AW.ret ?_); (conv => whnf))
      | ((with_reducible refine AW.block ?_))
      | ((with_reducible refine AW.skip ?_); (conv => whnf))
      | ((with_reducible refine AW.cond ?_); (conv => whnf))
      | ((with_reducible refine ACall.id ?_); (refine PCall.call (by first | exact c46t | exact ways_yes h1 | exact ways_yes h2 | exact c57' _ _) rfl ?_); (intro x hx; first | subst hx | (obtain ⟨l_, rfl, hl_⟩ := hx.out)); (conv => whnf))
      | ((with_reducible refine ACall.id ?_); (refine ACall.intro Try.tabOk Try.f58 _ Try.func58 rfl (by decide) rfl ?_); intro z_)
      | ((with_reducible refine ACall.id ?_); (refine ACall.intro Try.tabOk Try.f92 _ Try.func92 rfl (by decide) rfl ?_); intro z_)
      | (refine ⟨_, ⟨rfl, rfl⟩, ?_⟩; (conv => whnf))
      | (apply Exists.intro; apply And.intro; (focus (first | (intro hg; (conv => whnf)) | (conv => whnf)); (repeat' first | (with_reducible exact ⟨rfl, rfl⟩) | ((with_reducible refine Own2.data ?_); (conv => whnf)) | (refine ⟨true, _, rfl, ?_⟩; (conv => whnf)) | (refine ⟨false, .nilp, rfl, ?_⟩; (conv => whnf)) | (refine ⟨_, _, by first | exact c46t | exact ways_yes h1 | exact ways_yes h2 | exact c57' _ _, ?_⟩; (conv => whnf)) | ((with_reducible apply Or.inl); (refine ⟨rfl, rfl, ?_⟩); (conv => whnf)) | ((with_reducible apply Or.inl); (with_reducible apply And.intro); (focus (first | assumption | (simp only [rng]; omega) | (simp [rng, IntKind.bits]; omega))); (conv => whnf)) | (refine ⟨by first | omega | (simp; omega) | (simp at hg ⊢; omega) | (simp_all; first | done | fail), ?_⟩; (conv => whnf)) | ((with_reducible refine ACall.id ?_); (refine PCall.call (by first | exact c46t | exact ways_yes h1 | exact ways_yes h2 | exact c57' _ _) rfl ?_); (intro x hx; first | subst hx | (obtain ⟨l_, rfl, hl_⟩ := hx.out)); (conv => whnf)) | ((with_reducible apply Or.inr); (with_reducible exact ⟨rfl, rfl⟩)) | ((with_reducible apply Or.inr); (with_reducible apply And.intro) <;> (intro hb_; first | (cases hb_; done) | (conv => whnf))) | (intro hlen; (conv => whnf))); done); (conv => whnf))
      | ((with_reducible apply And.intro) <;> (intro hb; (try simp at hb); (try (exfalso; first | omega | (simp_all; first | done | fail))); (try (conv => whnf))))
      | (intro hlen; (conv => whnf))
    (try (any_goals (refine Side.mk ⟨rfl, ?_, ?_⟩ <;> (simp [maxLen]; omega))))
    · have hb : ¬v ∈ wayR m a ∨ ¬v ∈ wayR m b := by assumption
      rw [allowN]
      rcases hb with hb | hb <;> simp [hb]
    refine AW.loopS (X := Nat) [7, 6, 0, 1] [3, 2, 1, 0] (fun i => [(8, .d (.int .i64 (i : Int)))]) (fun i => []) (fun _ => 4)
      (fun i => i ≤ m.length ∧ ∀ k, k < i → ¬((m.getD k default).kind = 5 ∧ (m.getD k default).refs = [a, v, b])) (fun i => m.length - i) 0 ⟨Nat.zero_le _, fun k h => absurd h (Nat.not_lt_zero k)⟩ (fun _ _ => rfl) (by refine ⟨rfl, rfl, rfl, ?_, ?_⟩ <;> repeat' (first | exact trivial | exact OLe.refl _ | exact AV.le_refl _ | apply And.intro)) ?_
    intro i ⟨hi, hw⟩
    repeat' first
      | (with_reducible refine AW.seq ?_)
      | ((with_reducible refine AW.region Try.tabOk ?_); (conv => whnf))
      | ((with_reducible refine AW.ret ?_); (conv => whnf))
      | ((with_reducible refine AW.block ?_))
      | ((with_reducible refine AW.exit ?_); (conv => whnf))
      | ((with_reducible refine AW.skip ?_); (conv => whnf))
      | ((with_reducible refine AW.cond ?_); (conv => whnf))
      | ((with_reducible refine Own2.data ?_); (conv => whnf))
      | ((with_reducible refine ACall.id ?_); (refine PCall.call (by first | exact c60l _ _ _ _) rfl ?_); (intro x hx; first | subst hx | (obtain ⟨l_, rfl, hl_⟩ := hx.out)); (conv => whnf))
      | ((with_reducible refine ACall.id ?_); (refine ACall.intro Try.tabOk Try.f59 _ Try.func59 rfl (by decide) rfl ?_); intro z_)
      | ((with_reducible apply Or.inl); apply Exists.intro; apply And.intro; (focus (intro hg; (conv => whnf); (repeat' first | (with_reducible exact ⟨rfl, rfl⟩) | ((with_reducible refine Own2.data ?_); (conv => whnf)) | (refine ⟨true, _, rfl, ?_⟩; (conv => whnf)) | (refine ⟨false, .nilp, rfl, ?_⟩; (conv => whnf)) | (refine ⟨_, _, by first | exact c60l _ _ _ _, ?_⟩; (conv => whnf)) | ((with_reducible apply Or.inl); (refine ⟨rfl, rfl, ?_⟩); (conv => whnf)) | ((with_reducible apply Or.inl); (with_reducible apply And.intro); (focus (first | assumption | (simp only [rng]; omega) | (simp [rng, IntKind.bits]; omega))); (conv => whnf)) | (refine ⟨by first | omega | (simp; omega) | (simp at hg ⊢; omega) | (simp_all; first | done | fail), ?_⟩; (conv => whnf)) | ((with_reducible refine ACall.id ?_); (refine PCall.call (by first | exact c60l _ _ _ _) rfl ?_); (intro x hx; first | subst hx | (obtain ⟨l_, rfl, hl_⟩ := hx.out)); (conv => whnf)) | ((with_reducible apply Or.inr); (with_reducible exact ⟨rfl, rfl⟩)) | ((with_reducible apply Or.inr); (with_reducible apply And.intro) <;> (intro hb_; first | (cases hb_; done) | (conv => whnf))) | (intro hlen; (conv => whnf))); done)); (conv => whnf))
      | ((with_reducible apply Or.inl); (with_reducible apply And.intro); (focus (first | assumption | (simp only [rng]; omega) | (simp [rng, IntKind.bits]; omega))); (conv => whnf))
      | ((with_reducible apply Or.inr); (with_reducible apply And.intro) <;> (intro hb; (try simp at hb); (try (exfalso; first | omega | (simp_all; first | done | fail))); (try (conv => whnf))))
      | ((with_reducible apply And.intro); (focus (first | omega | assumption | (exact True.intro) | (simp; omega) | (exact Nat.le_of_ble_eq_true rfl) | (exact ⟨rfl, Nat.le_of_ble_eq_true rfl⟩) | (exact ⟨Nat.le_of_ble_eq_true rfl, Nat.le_of_ble_eq_true rfl⟩) | (intro hg; first | (simp; first | done | fail) | (simp at hg ⊢; exact hg) | (simp at hg; exact hg) | exact hg))); (conv => whnf))
      | ((with_reducible apply And.intro) <;> (intro hb; (try simp at hb); (try (exfalso; first | omega | (simp_all; first | done | fail))); (try (conv => whnf))))
    (try (any_goals (refine Side.mk ⟨rfl, ?_, ?_⟩ <;> (simp [maxLen]; omega))))
    · have h1 : i < m.length := by assumption
      have h2 : (m[i]?.getD default).kind = 5 := by assumption
      have h3 : (m[i]?.getD default).refs = [a, v, b] := by assumption
      have : m.any (fun o => decide (o.kind = 5) && decide (o.refs = [a, v, b])) = true := by
        rw [List.any_eq_true]
        refine ⟨m[i], List.getElem_mem _, ?_⟩
        rw [List.getElem?_eq_getElem h1] at h2 h3
        have h2' : (m[i]).kind = 5 := h2
        have h3' : (m[i]).refs = [a, v, b] := h3
        simp [h2', h3']
      have h4 : decide ((i : Int) ≥ 0) = true := by simp
      rw [allowN, this, h4]; simp
    · have h3 : ¬(m[i]?.getD default).refs = [a, v, b] := by assumption
      exact .mk (i + 1) ⟨by assumption, upto_lt hw (by rw [List.getD_eq_getElem?_getD]; exact fun h => h3 h.2)⟩ (by show m.length - (i + 1) < m.length - i; omega) (by refine ⟨rfl, rfl, rfl, ?_, ?_, rfl⟩ <;> repeat' (first | exact trivial | exact OLe.refl _ | exact AV.le_refl _ | apply And.intro))
    · have h3 : ¬(m[i]?.getD default).kind = 5 := by assumption
      exact .mk (i + 1) ⟨by assumption, upto_lt hw (by rw [List.getD_eq_getElem?_getD]; exact fun h => h3 h.1)⟩ (by show m.length - (i + 1) < m.length - i; omega) (by refine ⟨rfl, rfl, rfl, ?_, ?_, rfl⟩ <;> repeat' (first | exact trivial | exact OLe.refl _ | exact AV.le_refl _ | apply And.intro))
    · have hv : v ∈ wayR m a ∧ v ∈ wayR m b := by assumption
      have : m.any (fun o => decide (o.kind = 5) && decide (o.refs = [a, v, b])) = false := by
        rw [List.any_eq_false]
        intro o ho
        obtain ⟨k, hk, rfl⟩ := List.mem_iff_getElem.1 ho
        have := hw k (by omega)
        rw [List.getD_eq_getElem?_getD, List.getElem?_eq_getElem hk] at this
        simpa using this
      rw [allowN, this, hm]; simp [hv]
end Go.Proofs
end
section
/- Contracts: lists that are compared; a few objects. -/
namespace Go.Proofs
open Go.Pm
set_option maxRecDepth 100000
set_option maxHeartbeats 4000000

def beforeS : List Str → List Str → Bool
  | [], b => decide (0 < b.length)
  | _ :: _, [] => false
  | x :: a, y :: b => if x = y then beforeS a b else ltS x y
theorem list_eq_of {α : Type} {A B : List α} (d : α) (hl : A.length = B.length) (h : ∀ k, k < A.length → A.getD k d = B.getD k d) : A = B := by
  apply List.ext_getElem hl
  intro k h1 h2
  have := h k h1
  rwa [List.getD_eq_getElem?_getD, List.getD_eq_getElem?_getD, List.getElem?_eq_getElem h1, List.getElem?_eq_getElem h2] at this
theorem list_ne_at {α : Type} {A B : List α} {d : α} {k : Nat} (h : A.getD k d ≠ B.getD k d) : A ≠ B := by rintro rfl; exact h rfl
theorem drop_getD {α : Type} (L : List α) (i : Nat) (d : α) (h : i < L.length) : L.drop i = L.getD i d :: L.drop (i + 1) := by
  rw [List.drop_eq_getElem_cons h, List.getD_eq_getElem?_getD, List.getElem?_eq_getElem h]; rfl
theorem c80 (L M : List Str) : PCall Try.prog 80 [.d (encStrs L), .d (encStrs M)] fun x => x = .d (.bool (beforeS L M)) := by
  refine PCall.intro Try.tabOk Try.f80 _ Try.func80 rfl (by decide) rfl fun z => ?_
  repeat' first
    | (with_reducible refine AW.seq ?_)
    | ((with_reducible refine AW.region Try.tabOk ?_); (conv => whnf))
    | ((with_reducible refine AW.block ?_))
  (try (any_goals (refine Side.mk ⟨rfl, ?_, ?_⟩ <;> (simp [maxLen]; omega))))
  refine AW.loopS (X := Nat) [0, 1] [] (fun i => [(5, .d (.int .i64 (i : Int)))]) (fun i => []) (fun _ => 0)
    (fun i => i ≤ L.length ∧ i ≤ M.length ∧ beforeS L M = beforeS (L.drop i) (M.drop i)) (fun i => L.length - i) 0 ⟨Nat.zero_le _, Nat.zero_le _, rfl⟩ (fun _ _ => rfl) (by refine ⟨rfl, rfl, rfl, ?_, ?_⟩ <;> repeat' (first | exact trivial | exact OLe.refl _ | exact AV.le_refl _ | apply And.intro)) ?_
  intro i ⟨hi, hj, hw⟩
  have hstep : ∀ (h : i < L.length ∧ i < M.length), beforeS L M = if L.getD i [] = M.getD i [] then beforeS (L.drop (i + 1)) (M.drop (i + 1)) else ltS (L.getD i []) (M.getD i []) := by
    intro h
    rw [hw, drop_getD L i [] h.1, drop_getD M i [] h.2]; rfl
  repeat' first
    | (with_reducible refine AW.seq ?_)
    | ((with_reducible refine AW.region Try.tabOk ?_); (conv => whnf))
    | ((with_reducible refine AW.draw Try.tabOk Try.mixed ?_ ?_); (focus rfl); (conv => whnf))
    | ((with_reducible refine AW.ret ?_); (conv => whnf))
    | ((with_reducible refine AW.block ?_))
    | ((with_reducible refine AW.exit ?_); (conv => whnf))
    | ((with_reducible refine AW.skip ?_); (conv => whnf))
    | ((with_reducible refine AW.cond ?_); (conv => whnf))
    | (refine ⟨_, ⟨rfl, rfl⟩, ?_⟩; (conv => whnf))
    | ((with_reducible apply Or.inl); apply Exists.intro; apply And.intro; (focus (intro hg; (conv => whnf); (repeat' first | (with_reducible exact ⟨rfl, rfl⟩) | ((with_reducible refine Own2.data ?_); (conv => whnf)) | (refine ⟨true, _, rfl, ?_⟩; (conv => whnf)) | (refine ⟨false, .nilp, rfl, ?_⟩; (conv => whnf)) | (refine ⟨_, _, by first | fail, ?_⟩; (conv => whnf)) | ((with_reducible apply Or.inl); (refine ⟨rfl, rfl, ?_⟩); (conv => whnf)) | ((with_reducible apply Or.inl); (with_reducible apply And.intro); (focus (first | assumption | (simp only [rng]; omega) | (simp [rng, IntKind.bits]; omega))); (conv => whnf)) | (refine ⟨by first | omega | (simp; omega) | (simp at hg ⊢; omega) | (simp_all; first | done | fail), ?_⟩; (conv => whnf)) | ((with_reducible refine ACall.id ?_); (refine PCall.call (by first | fail) rfl ?_); (intro x hx; first | subst hx | (obtain ⟨l_, rfl, hl_⟩ := hx.out)); (conv => whnf)) | ((with_reducible apply Or.inr); (with_reducible exact ⟨rfl, rfl⟩)) | ((with_reducible apply Or.inr); (with_reducible apply And.intro) <;> (intro hb_; first | (cases hb_; done) | (conv => whnf))) | (intro hlen; (conv => whnf))); done)); (conv => whnf))
    | (apply Exists.intro; apply And.intro; (focus (first | (intro hg; (conv => whnf)) | (conv => whnf)); (repeat' first | (with_reducible exact ⟨rfl, rfl⟩) | ((with_reducible refine Own2.data ?_); (conv => whnf)) | (refine ⟨true, _, rfl, ?_⟩; (conv => whnf)) | (refine ⟨false, .nilp, rfl, ?_⟩; (conv => whnf)) | (refine ⟨_, _, by first | fail, ?_⟩; (conv => whnf)) | ((with_reducible apply Or.inl); (refine ⟨rfl, rfl, ?_⟩); (conv => whnf)) | ((with_reducible apply Or.inl); (with_reducible apply And.intro); (focus (first | assumption | (simp only [rng]; omega) | (simp [rng, IntKind.bits]; omega))); (conv => whnf)) | (refine ⟨by first | omega | (simp; omega) | (simp at hg ⊢; omega) | (simp_all; first | done | fail), ?_⟩; (conv => whnf)) | ((with_reducible refine ACall.id ?_); (refine PCall.call (by first | fail) rfl ?_); (intro x hx; first | subst hx | (obtain ⟨l_, rfl, hl_⟩ := hx.out)); (conv => whnf)) | ((with_reducible apply Or.inr); (with_reducible exact ⟨rfl, rfl⟩)) | ((with_reducible apply Or.inr); (with_reducible apply And.intro) <;> (intro hb_; first | (cases hb_; done) | (conv => whnf))) | (intro hlen; (conv => whnf))); done); (conv => whnf))
    | ((with_reducible apply Or.inl); (with_reducible apply And.intro); (focus (first | assumption | (simp only [rng]; omega) | (simp [rng, IntKind.bits]; omega))); (conv => whnf))
    | ((with_reducible apply And.intro); (focus (first | omega | assumption | (exact True.intro) | (simp; omega) | (exact Nat.le_of_ble_eq_true rfl) | (exact ⟨rfl, Nat.le_of_ble_eq_true rfl⟩) | (exact ⟨Nat.le_of_ble_eq_true rfl, Nat.le_of_ble_eq_true rfl⟩) | (intro hg; first | (simp; first | done | fail) | (simp at hg ⊢; exact hg) | (simp at hg; exact hg) | exact hg))); (conv => whnf))
    | ((with_reducible apply And.intro) <;> (intro hb; (try simp at hb); (try (exfalso; first | omega | (simp_all; first | done | fail))); (try (conv => whnf))))
    | (intro hlen; (conv => whnf))
  (try (any_goals (refine Side.mk ⟨rfl, ?_, ?_⟩ <;> (simp [maxLen]; omega))))
  · rename_i hne
    rw [hstep (by assumption), if_neg (by rw [List.getD_eq_getElem?_getD, List.getD_eq_getElem?_getD]; exact hb)]; rfl
  · have hlt : i < L.length ∧ i < M.length := by assumption
    have := hstep hlt
    rw [if_pos (by rw [List.getD_eq_getElem?_getD, List.getD_eq_getElem?_getD]; exact hb)] at this
    exact .mk (i + 1) ⟨hlt.1, hlt.2, this⟩ (by show L.length - (i + 1) < L.length - i; omega) (by refine ⟨rfl, rfl, rfl, ?_, ?_, rfl⟩ <;> repeat' (first | exact trivial | exact OLe.refl _ | exact AV.le_refl _ | apply And.intro))
  · rw [hw]
    by_cases h : i < L.length
    · have h2 := hb h
      rw [List.drop_of_length_le h2, drop_getD L i [] h]
      have e : decide ((L.length : Int) < M.length) = false := by rw [decide_eq_false]; omega
      rw [e]; rfl
    · rw [List.drop_of_length_le (by omega : L.length ≤ i)]
      have e : decide ((L.length : Int) < M.length) = decide (0 < (M.drop i).length) := by rw [List.length_drop, decide_eq_decide]; omega
      rw [e]; rfl
theorem before_eq : ∀ (L M : List Str), (bif !beforeS L M then !beforeS M L else false) = decide (L = M)
  | [], [] => rfl
  | [], y :: b => by simp [beforeS]
  | x :: a, [] => by simp [beforeS]
  | x :: a, y :: b => by
    simp only [beforeS]
    by_cases h : x = y
    · subst h
      rw [if_pos rfl, if_pos rfl, before_eq a b]; simp
    · rw [if_neg h, if_neg (Ne.symm h)]
      rcases ltS_tri x y with h1 | h1 | h1
      · rw [h1, ltS_asymm h1]; simp [h]
      · exact absurd h1 h
      · rw [h1, ltS_asymm h1]; simp [h]
structure Vio where
  view : Str
  kind : Int
  ids : List Str
deriving DecidableEq
instance : Inhabited Vio := ⟨⟨[], 0, []⟩⟩
def encVio (v : Vio) : D := .agg [.str v.view, .int .i64 v.kind, encStrs v.ids]
def encVios (L : List Vio) : D := encL 3 default encVio L
def encLists (L : List (List Str)) : D := encL 1 [] encStrs L
theorem c44 (L M : List Str) : PCall Try.prog 44 [.d (encStrs L), .d (encStrs M)] fun x => x = .d (.bool (decide (L = M))) := by
  refine PCall.intro Try.tabOk Try.f44 _ Try.func44 rfl (by decide) rfl fun z => ?_
  repeat' first
    | (with_reducible refine AW.seq ?_)
    | ((with_reducible refine AW.region Try.tabOk ?_); (conv => whnf))
    | ((with_reducible refine AW.ret ?_); (conv => whnf))
    | ((with_reducible refine ACall.id ?_); (refine PCall.call (by first | exact c80 _ _) rfl ?_); (intro x hx; first | subst hx | (obtain ⟨l_, rfl, hl_⟩ := hx.out)); (conv => whnf))
    | ((with_reducible apply Or.inl); apply Exists.intro; apply And.intro; (focus (intro hg; (conv => whnf); (repeat' first | (with_reducible exact ⟨rfl, rfl⟩) | ((with_reducible refine Own2.data ?_); (conv => whnf)) | (refine ⟨true, _, rfl, ?_⟩; (conv => whnf)) | (refine ⟨false, .nilp, rfl, ?_⟩; (conv => whnf)) | (refine ⟨_, _, by first | exact c80 _ _, ?_⟩; (conv => whnf)) | ((with_reducible apply Or.inl); (refine ⟨rfl, rfl, ?_⟩); (conv => whnf)) | ((with_reducible apply Or.inl); (with_reducible apply And.intro); (focus (first | assumption | (simp only [rng]; omega) | (simp [rng, IntKind.bits]; omega))); (conv => whnf)) | (refine ⟨by first | omega | (simp; omega) | (simp at hg ⊢; omega) | (simp_all; first | done | fail), ?_⟩; (conv => whnf)) | ((with_reducible refine ACall.id ?_); (refine PCall.call (by first | exact c80 _ _) rfl ?_); (intro x hx; first | subst hx | (obtain ⟨l_, rfl, hl_⟩ := hx.out)); (conv => whnf)) | ((with_reducible apply Or.inr); (with_reducible exact ⟨rfl, rfl⟩)) | ((with_reducible apply Or.inr); (with_reducible apply And.intro) <;> (intro hb_; first | (cases hb_; done) | (conv => whnf))) | (intro hlen; (conv => whnf))); done)); (conv => whnf))
    | ((with_reducible apply And.intro); (focus (first | omega | assumption | (exact True.intro) | (simp; omega) | (exact Nat.le_of_ble_eq_true rfl) | (exact ⟨rfl, Nat.le_of_ble_eq_true rfl⟩) | (exact ⟨Nat.le_of_ble_eq_true rfl, Nat.le_of_ble_eq_true rfl⟩) | (intro hg; first | (simp; first | done | fail) | (simp at hg ⊢; exact hg) | (simp at hg; exact hg) | exact hg))); (conv => whnf))
  (try (any_goals (refine Side.mk ⟨rfl, ?_, ?_⟩ <;> (simp [maxLen]; omega))))
  rw [before_eq]
theorem c15 (A B : List Vio) : PCall Try.prog 15 [.d (encVios A), .d (encVios B)] fun x => x = .d (.bool (decide (A = B))) := by
  refine PCall.intro Try.tabOk Try.f15 _ Try.func15 rfl (by decide) rfl fun z => ?_
  repeat' first
    | (with_reducible refine AW.seq ?_)
    | ((with_reducible refine AW.region Try.tabOk ?_); (conv => whnf))
    | ((with_reducible refine AW.ret ?_); (conv => whnf))
    | ((with_reducible refine AW.block ?_))
    | ((with_reducible refine AW.skip ?_); (conv => whnf))
    | ((with_reducible refine AW.cond ?_); (conv => whnf))
    | ((with_reducible apply And.intro) <;> (intro hb; (try simp at hb); (try (exfalso; first | omega | (simp_all; first | done | fail))); (try (conv => whnf))))
    | (intro hlen; (conv => whnf))
  (try (any_goals (refine Side.mk ⟨rfl, ?_, ?_⟩ <;> (simp [maxLen]; omega))))
  · have hb : ¬(A.length : Int) = B.length := by assumption
    rw [decide_eq_false]
    intro e; subst e; exact hb rfl
  have hlm : A.length = B.length := by omega
  refine AW.loopS (X := Nat) [0, 1] [] (fun i => [(5, .d (.int .i64 (i : Int)))]) (fun i => []) (fun _ => 0)
    (fun i => i ≤ A.length ∧ ∀ k, k < i → A.getD k default = B.getD k default) (fun i => A.length - i) 0 ⟨Nat.zero_le _, fun k h => absurd h (Nat.not_lt_zero k)⟩ (fun _ _ => rfl) (by refine ⟨rfl, rfl, rfl, ?_, ?_⟩ <;> repeat' (first | exact trivial | exact OLe.refl _ | exact AV.le_refl _ | apply And.intro)) ?_
  intro i ⟨hi, hw⟩
  repeat' first
    | (with_reducible refine AW.seq ?_)
    | ((with_reducible refine AW.region Try.tabOk ?_); (conv => whnf))
    | ((with_reducible refine AW.draw Try.tabOk Try.mixed ?_ ?_); (focus rfl); (conv => whnf))
    | ((with_reducible refine AW.ret ?_); (conv => whnf))
    | ((with_reducible refine AW.block ?_))
    | ((with_reducible refine AW.exit ?_); (conv => whnf))
    | ((with_reducible refine AW.skip ?_); (conv => whnf))
    | ((with_reducible refine AW.cond ?_); (conv => whnf))
    | (refine ⟨_, ⟨rfl, rfl⟩, ?_⟩; (conv => whnf))
    | (apply Exists.intro; apply And.intro; (focus (first | (intro hg; (conv => whnf)) | (conv => whnf)); (repeat' first | (with_reducible exact ⟨rfl, rfl⟩) | ((with_reducible refine Own2.data ?_); (conv => whnf)) | (refine ⟨true, _, rfl, ?_⟩; (conv => whnf)) | (refine ⟨false, .nilp, rfl, ?_⟩; (conv => whnf)) | (refine ⟨_, _, by first | exact c44 _ _, ?_⟩; (conv => whnf)) | ((with_reducible apply Or.inl); (refine ⟨rfl, rfl, ?_⟩); (conv => whnf)) | ((with_reducible apply Or.inl); (with_reducible apply And.intro); (focus (first | assumption | (simp only [rng]; omega) | (simp [rng, IntKind.bits]; omega))); (conv => whnf)) | (refine ⟨by first | omega | (simp; omega) | (simp at hg ⊢; omega) | (simp_all; first | done | fail), ?_⟩; (conv => whnf)) | ((with_reducible refine ACall.id ?_); (refine PCall.call (by first | exact c44 _ _) rfl ?_); (intro x hx; first | subst hx | (obtain ⟨l_, rfl, hl_⟩ := hx.out)); (conv => whnf)) | ((with_reducible apply Or.inr); (with_reducible exact ⟨rfl, rfl⟩)) | ((with_reducible apply Or.inr); (with_reducible apply And.intro) <;> (intro hb_; first | (cases hb_; done) | (conv => whnf))) | (intro hlen; (conv => whnf))); done); (conv => whnf))
    | ((with_reducible apply Or.inl); (with_reducible apply And.intro); (focus (first | assumption | (simp only [rng]; omega) | (simp [rng, IntKind.bits]; omega))); (conv => whnf))
    | ((with_reducible apply And.intro) <;> (intro hb; (try simp at hb); (try (exfalso; first | omega | (simp_all; first | done | fail))); (try (conv => whnf))))
    | (intro hlen; (conv => whnf))
  (try (any_goals (refine Side.mk ⟨rfl, ?_, ?_⟩ <;> (simp [maxLen]; omega))))
  · rw [decide_eq_false]
    refine list_ne_at (k := i) (d := default) fun e => ?_
    rw [List.getD_eq_getElem?_getD, List.getD_eq_getElem?_getD] at e
    rw [e] at hb
    simp at hb
  · have hit : i < A.length := by assumption
    refine .mk (i + 1) ⟨hit, upto_lt hw ?_⟩ (by show A.length - (i + 1) < A.length - i; omega) (by refine ⟨rfl, rfl, rfl, ?_, ?_, rfl⟩ <;> repeat' (first | exact trivial | exact OLe.refl _ | exact AV.le_refl _ | apply And.intro))
    rw [List.getD_eq_getElem?_getD, List.getD_eq_getElem?_getD]
    revert hb
    generalize A[i]?.getD default = x
    generalize B[i]?.getD default = y
    intro hb
    cases x; cases y
    simp only at hb
    simp [hb]
  · rw [decide_eq_true (list_eq_of default hlm fun k hk => hw k (by omega))]
theorem c18 (A B : List Arc) : PCall Try.prog 18 [.d (encArcs A), .d (encArcs B)] fun x => x = .d (.bool (decide (A = B))) := by
  refine PCall.intro Try.tabOk Try.f18 _ Try.func18 rfl (by decide) rfl fun z => ?_
  repeat' first
    | (with_reducible refine AW.seq ?_)
    | ((with_reducible refine AW.region Try.tabOk ?_); (conv => whnf))
    | ((with_reducible refine AW.ret ?_); (conv => whnf))
    | ((with_reducible refine AW.block ?_))
    | ((with_reducible refine AW.skip ?_); (conv => whnf))
    | ((with_reducible refine AW.cond ?_); (conv => whnf))
    | ((with_reducible apply And.intro) <;> (intro hb; (try simp at hb); (try (exfalso; first | omega | (simp_all; first | done | fail))); (try (conv => whnf))))
    | (intro hlen; (conv => whnf))
  (try (any_goals (refine Side.mk ⟨rfl, ?_, ?_⟩ <;> (simp [maxLen]; omega))))
  · have hb : ¬(A.length : Int) = B.length := by assumption
    rw [decide_eq_false]
    intro e; subst e; exact hb rfl
  have hlm : A.length = B.length := by omega
  refine AW.loopS (X := Nat) [0, 1] [] (fun i => [(5, .d (.int .i64 (i : Int)))]) (fun i => []) (fun _ => 0)
    (fun i => i ≤ A.length ∧ ∀ k, k < i → A.getD k default = B.getD k default) (fun i => A.length - i) 0 ⟨Nat.zero_le _, fun k h => absurd h (Nat.not_lt_zero k)⟩ (fun _ _ => rfl) (by refine ⟨rfl, rfl, rfl, ?_, ?_⟩ <;> repeat' (first | exact trivial | exact OLe.refl _ | exact AV.le_refl _ | apply And.intro)) ?_
  intro i ⟨hi, hw⟩
  repeat' first
    | (with_reducible refine AW.seq ?_)
    | ((with_reducible refine AW.region Try.tabOk ?_); (conv => whnf))
    | ((with_reducible refine AW.draw Try.tabOk Try.mixed ?_ ?_); (focus rfl); (conv => whnf))
    | ((with_reducible refine AW.ret ?_); (conv => whnf))
    | ((with_reducible refine AW.block ?_))
    | ((with_reducible refine AW.exit ?_); (conv => whnf))
    | ((with_reducible refine AW.skip ?_); (conv => whnf))
    | ((with_reducible refine AW.cond ?_); (conv => whnf))
    | (refine ⟨_, ⟨rfl, rfl⟩, ?_⟩; (conv => whnf))
    | (apply Exists.intro; apply And.intro; (focus (first | (intro hg; (conv => whnf)) | (conv => whnf)); (repeat' first | (with_reducible exact ⟨rfl, rfl⟩) | ((with_reducible refine Own2.data ?_); (conv => whnf)) | (refine ⟨true, _, rfl, ?_⟩; (conv => whnf)) | (refine ⟨false, .nilp, rfl, ?_⟩; (conv => whnf)) | (refine ⟨_, _, by first | fail, ?_⟩; (conv => whnf)) | ((with_reducible apply Or.inl); (refine ⟨rfl, rfl, ?_⟩); (conv => whnf)) | ((with_reducible apply Or.inl); (with_reducible apply And.intro); (focus (first | assumption | (simp only [rng]; omega) | (simp [rng, IntKind.bits]; omega))); (conv => whnf)) | (refine ⟨by first | omega | (simp; omega) | (simp at hg ⊢; omega) | (simp_all; first | done | fail), ?_⟩; (conv => whnf)) | ((with_reducible refine ACall.id ?_); (refine PCall.call (by first | fail) rfl ?_); (intro x hx; first | subst hx | (obtain ⟨l_, rfl, hl_⟩ := hx.out)); (conv => whnf)) | ((with_reducible apply Or.inr); (with_reducible exact ⟨rfl, rfl⟩)) | ((with_reducible apply Or.inr); (with_reducible apply And.intro) <;> (intro hb_; first | (cases hb_; done) | (conv => whnf))) | (intro hlen; (conv => whnf))); done); (conv => whnf))
    | ((with_reducible apply Or.inl); (with_reducible apply And.intro); (focus (first | assumption | (simp only [rng]; omega) | (simp [rng, IntKind.bits]; omega))); (conv => whnf))
    | ((with_reducible apply And.intro) <;> (intro hb; (try simp at hb); (try (exfalso; first | omega | (simp_all; first | done | fail))); (try (conv => whnf))))
    | (intro hlen; (conv => whnf))
  (try (any_goals (refine Side.mk ⟨rfl, ?_, ?_⟩ <;> (simp [maxLen]; omega))))
  · rw [decide_eq_false]
    refine list_ne_at (k := i) (d := default) fun e => ?_
    rw [List.getD_eq_getElem?_getD, List.getD_eq_getElem?_getD] at e
    rw [e] at hb
    simp at hb
  · have hit : i < A.length := by assumption
    refine .mk (i + 1) ⟨hit, upto_lt hw ?_⟩ (by show A.length - (i + 1) < A.length - i; omega) (by refine ⟨rfl, rfl, rfl, ?_, ?_, rfl⟩ <;> repeat' (first | exact trivial | exact OLe.refl _ | exact AV.le_refl _ | apply And.intro))
    rw [List.getD_eq_getElem?_getD, List.getD_eq_getElem?_getD]
    revert hb
    generalize A[i]?.getD default = x
    generalize B[i]?.getD default = y
    intro hb
    cases x; cases y
    simp only at hb
    simp [hb]
  · rw [decide_eq_true (list_eq_of default hlm fun k hk => hw k (by omega))]
theorem c21 (A B : List (List Str)) : PCall Try.prog 21 [.d (encLists A), .d (encLists B)] fun x => x = .d (.bool (decide (A = B))) := by
  refine PCall.intro Try.tabOk Try.f21 _ Try.func21 rfl (by decide) rfl fun z => ?_
  repeat' first
    | (with_reducible refine AW.seq ?_)
    | ((with_reducible refine AW.region Try.tabOk ?_); (conv => whnf))
    | ((with_reducible refine AW.ret ?_); (conv => whnf))
    | ((with_reducible refine AW.block ?_))
    | ((with_reducible refine AW.skip ?_); (conv => whnf))
    | ((with_reducible refine AW.cond ?_); (conv => whnf))
    | ((with_reducible apply And.intro) <;> (intro hb; (try simp at hb); (try (exfalso; first | omega | (simp_all; first | done | fail))); (try (conv => whnf))))
    | (intro hlen; (conv => whnf))
  (try (any_goals (refine Side.mk ⟨rfl, ?_, ?_⟩ <;> (simp [maxLen]; omega))))
  · have hb : ¬(A.length : Int) = B.length := by assumption
    rw [decide_eq_false]
    intro e; subst e; exact hb rfl
  have hlm : A.length = B.length := by omega
  refine AW.loopS (X := Nat) [0, 1] [] (fun i => [(5, .d (.int .i64 (i : Int)))]) (fun i => []) (fun _ => 0)
    (fun i => i ≤ A.length ∧ ∀ k, k < i → A.getD k [] = B.getD k []) (fun i => A.length - i) 0 ⟨Nat.zero_le _, fun k h => absurd h (Nat.not_lt_zero k)⟩ (fun _ _ => rfl) (by refine ⟨rfl, rfl, rfl, ?_, ?_⟩ <;> repeat' (first | exact trivial | exact OLe.refl _ | exact AV.le_refl _ | apply And.intro)) ?_
  intro i ⟨hi, hw⟩
  repeat' first
    | (with_reducible refine AW.seq ?_)
    | ((with_reducible refine AW.region Try.tabOk ?_); (conv => whnf))
    | ((with_reducible refine AW.draw Try.tabOk Try.mixed ?_ ?_); (focus rfl); (conv => whnf))
    | ((with_reducible refine AW.ret ?_); (conv => whnf))
    | ((with_reducible refine AW.block ?_))
    | ((with_reducible refine AW.exit ?_); (conv => whnf))
    | ((with_reducible refine AW.skip ?_); (conv => whnf))
    | ((with_reducible refine AW.cond ?_); (conv => whnf))
    | (refine ⟨_, ⟨rfl, rfl⟩, ?_⟩; (conv => whnf))
    | (apply Exists.intro; apply And.intro; (focus (first | (intro hg; (conv => whnf)) | (conv => whnf)); (repeat' first | (with_reducible exact ⟨rfl, rfl⟩) | ((with_reducible refine Own2.data ?_); (conv => whnf)) | (refine ⟨true, _, rfl, ?_⟩; (conv => whnf)) | (refine ⟨false, .nilp, rfl, ?_⟩; (conv => whnf)) | (refine ⟨_, _, by first | exact c44 _ _, ?_⟩; (conv => whnf)) | ((with_reducible apply Or.inl); (refine ⟨rfl, rfl, ?_⟩); (conv => whnf)) | ((with_reducible apply Or.inl); (with_reducible apply And.intro); (focus (first | assumption | (simp only [rng]; omega) | (simp [rng, IntKind.bits]; omega))); (conv => whnf)) | (refine ⟨by first | omega | (simp; omega) | (simp at hg ⊢; omega) | (simp_all; first | done | fail), ?_⟩; (conv => whnf)) | ((with_reducible refine ACall.id ?_); (refine PCall.call (by first | exact c44 _ _) rfl ?_); (intro x hx; first | subst hx | (obtain ⟨l_, rfl, hl_⟩ := hx.out)); (conv => whnf)) | ((with_reducible apply Or.inr); (with_reducible exact ⟨rfl, rfl⟩)) | ((with_reducible apply Or.inr); (with_reducible apply And.intro) <;> (intro hb_; first | (cases hb_; done) | (conv => whnf))) | (intro hlen; (conv => whnf))); done); (conv => whnf))
    | ((with_reducible apply Or.inl); (with_reducible apply And.intro); (focus (first | assumption | (simp only [rng]; omega) | (simp [rng, IntKind.bits]; omega))); (conv => whnf))
    | ((with_reducible apply And.intro) <;> (intro hb; (try simp at hb); (try (exfalso; first | omega | (simp_all; first | done | fail))); (try (conv => whnf))))
    | (intro hlen; (conv => whnf))
  (try (any_goals (refine Side.mk ⟨rfl, ?_, ?_⟩ <;> (simp [maxLen]; omega))))
  · rw [decide_eq_false]
    refine list_ne_at (k := i) (d := []) fun e => ?_
    rw [List.getD_eq_getElem?_getD, List.getD_eq_getElem?_getD] at e
    rw [e] at hb
    simp at hb
  · have hit : i < A.length := by assumption
    refine .mk (i + 1) ⟨hit, upto_lt hw ?_⟩ (by show A.length - (i + 1) < A.length - i; omega) (by refine ⟨rfl, rfl, rfl, ?_, ?_, rfl⟩ <;> repeat' (first | exact trivial | exact OLe.refl _ | exact AV.le_refl _ | apply And.intro))
    rw [List.getD_eq_getElem?_getD, List.getD_eq_getElem?_getD]
    exact hb
  · rw [decide_eq_true (list_eq_of [] hlm fun k hk => hw k (by omega))]
end Go.Proofs
end
section
/- Contracts: the example; a few objects. -/
namespace Go.Proofs
open Go.Pm
set_option maxRecDepth 100000
set_option maxHeartbeats 4000000

def objN (id : Str) (x y : Int) : Obj := ⟨id, 1, x, y, [], []⟩
def objR (k : Int) (id : Str) (r : List Str) : Obj := ⟨id, k, 0, 0, r, []⟩
theorem c78 (id : Str) (x y : Int) : PCall Try.prog 78 [.d (.str id), .d (.int .i64 x), .d (.int .i64 y)] fun v => v = .d (encObj (objN id x y)) := by
  refine PCall.res ?_ rfl
  refine PCall.intro Try.tabOk Try.f78 _ Try.func78 rfl (by decide) rfl fun z => ?_
  repeat' first
    | (with_reducible refine AW.seq ?_)
    | ((with_reducible refine AW.region Try.tabOk ?_); (conv => whnf))
    | ((with_reducible refine AW.ret ?_); (conv => whnf))
  (try (any_goals (refine Side.mk ⟨rfl, ?_, ?_⟩ <;> (simp [maxLen]; omega))))
  exact .d (DLe.agg ⟨DLe.refl _, rfl, DLe.refl _, rfl, DLe.refl _, rfl, DLe.refl _, rfl, DLe.nils, rfl, DLe.nils, rfl, trivial⟩)
theorem c79 (k : Int) (id : Str) (r : List Str) : PCall Try.prog 79 [.d (.int .i64 k), .d (.str id), .d (encStrs r)] fun v => v = .d (encObj (objR k id r)) := by
  refine PCall.res ?_ rfl
  refine PCall.intro Try.tabOk Try.f79 _ Try.func79 rfl (by decide) rfl fun z => ?_
  repeat' first
    | (with_reducible refine AW.seq ?_)
    | ((with_reducible refine AW.region Try.tabOk ?_); (conv => whnf))
    | ((with_reducible refine AW.ret ?_); (conv => whnf))
  (try (any_goals (refine Side.mk ⟨rfl, ?_, ?_⟩ <;> (simp [maxLen]; omega))))
  exact .d (DLe.agg ⟨DLe.refl _, rfl, DLe.refl _, rfl, DLe.refl _, rfl, DLe.refl _, rfl, DLe.refl _, rfl, DLe.nils, rfl, trivial⟩)
theorem c79_2 (k : Int) (id a b : Str) : PCall Try.prog 79 [.d (.int .i64 k), .d (.str id), .d (.list 1 [.str a, .str b])] fun v => v = .d (encObj (objR k id [a, b])) :=
  (c79 k id [a, b]).le ⟨AV.le_refl _, AV.le_refl _, AV.leL (by rfl), trivial⟩
theorem c79_3 (k : Int) (id a b c : Str) : PCall Try.prog 79 [.d (.int .i64 k), .d (.str id), .d (.list 1 [.str a, .str b, .str c])] fun v => v = .d (encObj (objR k id [a, b, c])) :=
  (c79 k id [a, b, c]).le ⟨AV.le_refl _, AV.le_refl _, AV.leL (by rfl), trivial⟩
def exM : List Obj := [objN [97] 0 0, objN [98] 3 4, objN [99] 9 9, objN [100] 0 9, objR 4 [114, 49] [[118], [119], [120]], objR 4 [114, 50] [[118], [120]], objR 5 [116, 49] [[118], [98], [119]], objR 5 [116, 50] [[118], [97], [119]], objR 2 [118] [[97], [98]], objR 2 [119] [[99], [98]], objR 2 [120] [[99], [100]]]
theorem c43 : PCall Try.prog 43 [] fun v => v = .d (encMap exM) := by
  refine PCall.res ?_ rfl
  refine PCall.intro Try.tabOk Try.f43 _ Try.func43 rfl (by decide) rfl fun z => ?_
  repeat' first
    | (with_reducible refine AW.seq ?_)
    | ((with_reducible refine AW.region Try.tabOk ?_); (conv => whnf))
    | ((with_reducible refine AW.ret ?_); (conv => whnf))
    | ((with_reducible refine Own2.data ?_); (conv => whnf))
    | ((with_reducible refine ACall.id ?_); (refine PCall.call (by first | exact c78 _ _ _ | exact c79_3 _ _ _ _ _ | exact c79_2 _ _ _ _) rfl ?_); (intro x hx; first | subst hx | (obtain ⟨l_, rfl, hl_⟩ := hx.out)); (conv => whnf))
    | ((with_reducible apply And.intro); (focus (first | omega | assumption | (exact True.intro) | (simp; omega) | (exact Nat.le_of_ble_eq_true rfl) | (exact ⟨rfl, Nat.le_of_ble_eq_true rfl⟩) | (exact ⟨Nat.le_of_ble_eq_true rfl, Nat.le_of_ble_eq_true rfl⟩) | (intro hg; first | (simp; first | done | fail) | (simp at hg ⊢; exact hg) | (simp at hg; exact hg) | exact hg))); (conv => whnf))
  (try (any_goals (refine Side.mk ⟨rfl, ?_, ?_⟩ <;> (simp [maxLen]; omega))))
  exact .d (DLe.agg ⟨DLe.mapL2 (sz := 6) (d := default) (enc := encObj) (L := exM) (by rfl), rfl, trivial⟩)
def fewObj (o : Obj) : Bool := decide (o.refs.length ≤ 12) && (decide (o.tags.length ≤ 20) && (decide (o.id.length ≤ 60) && (o.refs.all (fun s => decide (s.length ≤ 60)) && o.tags.all fun p => decide (IntKind.i64.wrap ((p.1.length : Int) + (p.2.length : Int)) ≤ 300))))
def fewB (m : List Obj) (n : Int) : Bool := decide ((m.length : Int) ≤ n) && m.all fewObj
theorem all_upto {α : Type} {L : List α} {d : α} {p : α → Bool} (h : ∀ k, k < L.length → p (L.getD k d) = true) : L.all p = true := by
  rw [List.all_eq_true]
  intro x hx
  obtain ⟨k, hk, rfl⟩ := List.mem_iff_getElem.1 hx
  have := h k hk
  rwa [List.getD_eq_getElem?_getD, List.getElem?_eq_getElem hk] at this
theorem all_not {α : Type} {L : List α} {d : α} {p : α → Bool} {k : Nat} (hk : k < L.length) (h : p (L.getD k d) = false) : L.all p = false := by
  rw [List.all_eq_false]
  refine ⟨L.getD k d, ?_, by rw [h]; simp⟩
  rw [List.getD_eq_getElem?_getD, List.getElem?_eq_getElem hk]
  exact List.getElem_mem hk
theorem few_not {m : List Obj} {n : Int} {i : Nat} (hi : i < m.length) (h : fewObj (m.getD i default) = false) : fewB m n = false := by
  rw [fewB, all_not (d := default) hi h, Bool.and_false]
theorem c45 (m : List Obj) (n : Int) : PCall Try.prog 45 [.d (encMap m), .d (.int .i64 n)] fun v => v = .d (.bool (fewB m n)) := by
  refine PCall.intro Try.tabOk Try.f45 _ Try.func45 rfl (by decide) rfl fun z => ?_
  repeat' first
    | (with_reducible refine AW.seq ?_)
    | ((with_reducible refine AW.region Try.tabOk ?_); (conv => whnf))
    | ((with_reducible refine AW.ret ?_); (conv => whnf))
    | ((with_reducible refine AW.block ?_))
    | ((with_reducible refine AW.skip ?_); (conv => whnf))
    | ((with_reducible refine AW.cond ?_); (conv => whnf))
    | ((with_reducible apply And.intro) <;> (intro hb; (try simp at hb); (try (exfalso; first | omega | (simp_all; first | done | fail))); (try (conv => whnf))))
    | (intro hlen; (conv => whnf))
  (try (any_goals (refine Side.mk ⟨rfl, ?_, ?_⟩ <;> (simp [maxLen]; omega))))
  · rw [fewB, decide_eq_false (by omega)]; rfl
  have hn : (m.length : Int) ≤ n := by assumption
  refine AW.loopS (X := Nat) [2] [0] (fun i => [(5, .d (.int .i64 (i : Int)))]) (fun i => []) (fun _ => 1)
    (fun i => i ≤ m.length ∧ ∀ k, k < i → fewObj (m.getD k default) = true) (fun i => m.length - i) 0 ⟨Nat.zero_le _, fun k h => absurd h (Nat.not_lt_zero k)⟩ (fun _ _ => rfl) (by refine ⟨rfl, rfl, rfl, ?_, ?_⟩ <;> repeat' (first | exact trivial | exact OLe.refl _ | exact AV.le_refl _ | apply And.intro)) ?_
  intro i ⟨hi, hw⟩
  repeat' first
    | (with_reducible refine AW.seq ?_)
    | ((with_reducible refine AW.region Try.tabOk ?_); (conv => whnf))
    | ((with_reducible refine AW.ret ?_); (conv => whnf))
    | ((with_reducible refine AW.block ?_))
    | ((with_reducible refine AW.exit ?_); (conv => whnf))
    | ((with_reducible refine AW.skip ?_); (conv => whnf))
    | ((with_reducible refine AW.cond ?_); (conv => whnf))
    | ((with_reducible apply Or.inl); apply Exists.intro; apply And.intro; (focus (intro hg; (conv => whnf); (repeat' first | (with_reducible exact ⟨rfl, rfl⟩) | ((with_reducible refine Own2.data ?_); (conv => whnf)) | (refine ⟨true, _, rfl, ?_⟩; (conv => whnf)) | (refine ⟨false, .nilp, rfl, ?_⟩; (conv => whnf)) | (refine ⟨_, _, by first | fail, ?_⟩; (conv => whnf)) | ((with_reducible apply Or.inl); (refine ⟨rfl, rfl, ?_⟩); (conv => whnf)) | ((with_reducible apply Or.inl); (with_reducible apply And.intro); (focus (first | assumption | (simp only [rng]; omega) | (simp [rng, IntKind.bits]; omega))); (conv => whnf)) | (refine ⟨by first | omega | (simp; omega) | (simp at hg ⊢; omega) | (simp_all; first | done | fail), ?_⟩; (conv => whnf)) | ((with_reducible refine ACall.id ?_); (refine PCall.call (by first | fail) rfl ?_); (intro x hx; first | subst hx | (obtain ⟨l_, rfl, hl_⟩ := hx.out)); (conv => whnf)) | ((with_reducible apply Or.inr); (with_reducible exact ⟨rfl, rfl⟩)) | ((with_reducible apply Or.inr); (with_reducible apply And.intro) <;> (intro hb_; first | (cases hb_; done) | (conv => whnf))) | (intro hlen; (conv => whnf))); done)); (conv => whnf))
    | ((with_reducible apply And.intro); (focus (first | omega | assumption | (exact True.intro) | (simp; omega) | (exact Nat.le_of_ble_eq_true rfl) | (exact ⟨rfl, Nat.le_of_ble_eq_true rfl⟩) | (exact ⟨Nat.le_of_ble_eq_true rfl, Nat.le_of_ble_eq_true rfl⟩) | (intro hg; first | (simp; first | done | fail) | (simp at hg ⊢; exact hg) | (simp at hg; exact hg) | exact hg))); (conv => whnf))
    | ((with_reducible apply And.intro) <;> (intro hb; (try simp at hb); (try (exfalso; first | omega | (simp_all; first | done | fail))); (try (conv => whnf))))
    | (intro hlen; (conv => whnf))
  (try (any_goals (refine Side.mk ⟨rfl, ?_, ?_⟩ <;> (simp [maxLen]; omega))))
  · rw [few_not (by assumption) (by
      rw [fewObj, List.getD_eq_getElem?_getD]
      rcases hb with (hb | hb) | hb
      · rw [decide_eq_false (by omega)]; rfl
      · rw [decide_eq_false (p := _ ≤ 20) (by omega)]; simp
      · rw [decide_eq_false (p := _ ≤ 60) (by omega)]; simp)]
  · obtain ⟨o, ho⟩ : ∃ o, o = m.getD i default := ⟨_, rfl⟩
    rw [← List.getD_eq_getElem?_getD, ← ho] at hb
    refine AW.loopS (X := Nat) [2, 5] [0] (fun j => [(6, .ptr 1 0), (7, .d (.int .i64 (j : Int)))]) (fun j => [(1, .var [.d (.str o.id), .d (.int .i64 o.kind), .d (.int .i64 o.x), .d (.int .i64 o.y), .d (encStrs o.refs), .d (encTags o.tags)] 42)]) (fun _ => 2)
      (fun j => j ≤ o.refs.length ∧ ∀ k, k < j → (o.refs.getD k []).length ≤ 60) (fun j => o.refs.length - j) 0 ⟨Nat.zero_le _, fun k h => absurd h (Nat.not_lt_zero k)⟩ (fun _ _ => rfl) (by subst ho; exact (by refine ⟨rfl, rfl, rfl, ?_, ?_⟩ <;> repeat' (first | exact trivial | exact OLe.refl _ | exact AV.le_refl _ | apply And.intro))) ?_
    intro j ⟨hj, hw2⟩
    repeat' first
      | (with_reducible refine AW.seq ?_)
      | ((with_reducible refine AW.region Try.tabOk ?_); (conv => whnf))
      | ((with_reducible refine AW.ret ?_); (conv => whnf))
      | ((with_reducible refine AW.block ?_))
      | ((with_reducible refine AW.exit ?_); (conv => whnf))
      | ((with_reducible refine AW.skip ?_); (conv => whnf))
      | ((with_reducible refine AW.cond ?_); (conv => whnf))
      | ((with_reducible apply Or.inl); (with_reducible apply And.intro); (focus (first | assumption | (simp only [rng]; omega) | (simp [rng, IntKind.bits]; omega))); (conv => whnf))
      | ((with_reducible apply And.intro); (focus (first | omega | assumption | (exact True.intro) | (simp; omega) | (exact Nat.le_of_ble_eq_true rfl) | (exact ⟨rfl, Nat.le_of_ble_eq_true rfl⟩) | (exact ⟨Nat.le_of_ble_eq_true rfl, Nat.le_of_ble_eq_true rfl⟩) | (intro hg; first | (simp; first | done | fail) | (simp at hg ⊢; exact hg) | (simp at hg; exact hg) | exact hg))); (conv => whnf))
      | ((with_reducible apply And.intro) <;> (intro hb; (try simp at hb); (try (exfalso; first | omega | (simp_all; first | done | fail))); (try (conv => whnf))))
      | (intro hlen; (conv => whnf))
    (try (any_goals (refine Side.mk ⟨rfl, ?_, ?_⟩ <;> (simp [maxLen]; omega))))
    · rw [few_not (i := i) (by assumption) (by
        rw [← ho, fewObj, all_not (L := o.refs) (d := []) (k := j) (by assumption) (by rw [decide_eq_false]; rw [List.getD_eq_getElem?_getD]; omega)]; simp)]
    · exact .mk (j + 1) ⟨by assumption, upto_lt hw2 (by rw [List.getD_eq_getElem?_getD]; omega)⟩ (by show o.refs.length - (j + 1) < o.refs.length - j; omega) (by refine ⟨rfl, rfl, rfl, ?_, ?_, rfl⟩ <;> repeat' (first | exact trivial | exact OLe.refl _ | exact AV.le_refl _ | apply And.intro))
    refine AW.loopS (X := Nat) [2, 5] [0] (fun j => [(6, .ptr 1 0), (8, .d (.int .i64 (j : Int)))]) (fun j => [(1, .var [.d (.str o.id), .d (.int .i64 o.kind), .d (.int .i64 o.x), .d (.int .i64 o.y), .d (encStrs o.refs), .d (encTags o.tags)] 42)]) (fun _ => 2)
      (fun k => k ≤ o.tags.length ∧ ∀ q, q < k → IntKind.i64.wrap (((o.tags.getD q ([], [])).1.length : Int) + ((o.tags.getD q ([], [])).2.length : Int)) ≤ 300) (fun k => o.tags.length - k) 0 ⟨Nat.zero_le _, fun k h => absurd h (Nat.not_lt_zero k)⟩ (fun _ _ => rfl) (by refine ⟨rfl, rfl, rfl, ?_, ?_⟩ <;> repeat' (first | exact trivial | exact OLe.refl _ | exact AV.le_refl _ | apply And.intro)) ?_
    intro k ⟨hk, hw3⟩
    repeat' first
      | (with_reducible refine AW.seq ?_)
      | ((with_reducible refine AW.region Try.tabOk ?_); (conv => whnf))
      | ((with_reducible refine AW.draw Try.tabOk Try.mixed ?_ ?_); (focus rfl); (conv => whnf))
      | ((with_reducible refine AW.ret ?_); (conv => whnf))
      | ((with_reducible refine AW.block ?_))
      | ((with_reducible refine AW.exit ?_); (conv => whnf))
      | ((with_reducible refine AW.skip ?_); (conv => whnf))
      | ((with_reducible refine AW.cond ?_); (conv => whnf))
      | (refine ⟨_, ⟨rfl, rfl⟩, ?_⟩; (conv => whnf))
      | (apply Exists.intro; apply And.intro; (focus (first | (intro hg; (conv => whnf)) | (conv => whnf)); (repeat' first | (with_reducible exact ⟨rfl, rfl⟩) | ((with_reducible refine Own2.data ?_); (conv => whnf)) | (refine ⟨true, _, rfl, ?_⟩; (conv => whnf)) | (refine ⟨false, .nilp, rfl, ?_⟩; (conv => whnf)) | (refine ⟨_, _, by first | fail, ?_⟩; (conv => whnf)) | ((with_reducible apply Or.inl); (refine ⟨rfl, rfl, ?_⟩); (conv => whnf)) | ((with_reducible apply Or.inl); (with_reducible apply And.intro); (focus (first | assumption | (simp only [rng]; omega) | (simp [rng, IntKind.bits]; omega))); (conv => whnf)) | (refine ⟨by first | omega | (simp; omega) | (simp at hg ⊢; omega) | (simp_all; first | done | fail), ?_⟩; (conv => whnf)) | ((with_reducible refine ACall.id ?_); (refine PCall.call (by first | fail) rfl ?_); (intro x hx; first | subst hx | (obtain ⟨l_, rfl, hl_⟩ := hx.out)); (conv => whnf)) | ((with_reducible apply Or.inr); (with_reducible exact ⟨rfl, rfl⟩)) | ((with_reducible apply Or.inr); (with_reducible apply And.intro) <;> (intro hb_; first | (cases hb_; done) | (conv => whnf))) | (intro hlen; (conv => whnf))); done); (conv => whnf))
      | ((with_reducible apply Or.inl); (with_reducible apply And.intro); (focus (first | assumption | (simp only [rng]; omega) | (simp [rng, IntKind.bits]; omega))); (conv => whnf))
      | ((with_reducible apply And.intro) <;> (intro hb; (try simp at hb); (try (exfalso; first | omega | (simp_all; first | done | fail))); (try (conv => whnf))))
      | (intro hlen; (conv => whnf))
    (try (any_goals (refine Side.mk ⟨rfl, ?_, ?_⟩ <;> (simp [maxLen]; omega))))
    · rw [few_not (i := i) (by assumption) (by
        rw [← ho, fewObj, all_not (L := o.tags) (d := ([], [])) (k := k) (by assumption) (by rw [decide_eq_false]; rw [List.getD_eq_getElem?_getD]; omega)]; simp)]
    · exact .mk (k + 1) ⟨by assumption, upto_lt hw3 (by rw [List.getD_eq_getElem?_getD]; exact hb)⟩ (by show o.tags.length - (k + 1) < o.tags.length - k; omega) (by refine ⟨rfl, rfl, rfl, ?_, ?_, rfl⟩ <;> repeat' (first | exact trivial | exact OLe.refl _ | exact AV.le_refl _ | apply And.intro))
    · have hbo : ((o.refs.length : Int) ≤ 12 ∧ (o.tags.length : Int) ≤ 20) ∧ (o.id.length : Int) ≤ 60 := by assumption
      have hjl : o.refs.length ≤ j := by assumption
      refine .mk (i + 1) ⟨by assumption, upto_lt hw ?_⟩ (by show m.length - (i + 1) < m.length - i; omega) (by refine ⟨rfl, rfl, rfl, ?_, ?_, rfl⟩ <;> repeat' (first | exact trivial | exact OLe.refl _ | exact AV.le_refl _ | apply And.intro))
      rw [← ho, fewObj, decide_eq_true (by omega : o.refs.length ≤ 12), decide_eq_true (by omega : o.tags.length ≤ 20), decide_eq_true (by omega : o.id.length ≤ 60), all_upto (L := o.refs) (d := []) fun q hq => decide_eq_true (hw2 q (by omega)), all_upto (L := o.tags) (d := ([], [])) fun q hq => decide_eq_true (hw3 q (by omega))]
      rfl
  · rw [fewB, decide_eq_true hn, all_upto (L := m) (d := default) fun k hk => hw k (by omega)]; rfl
theorem c14 (m : List Obj) : PCall Try.prog 14 [.d (encMap m)] fun v => v = .d (.bool (fewB m 24)) := by
  refine PCall.intro Try.tabOk Try.f14 _ Try.func14 rfl (by decide) rfl fun z => ?_
  repeat' first
    | (with_reducible refine AW.seq ?_)
    | ((with_reducible refine AW.region Try.tabOk ?_); (conv => whnf))
    | ((with_reducible refine AW.ret ?_); (conv => whnf))
    | ((with_reducible refine ACall.id ?_); (refine PCall.call (by first | exact c45 _ _) rfl ?_); (intro x hx; first | subst hx | (obtain ⟨l_, rfl, hl_⟩ := hx.out)); (conv => whnf))
  (try (any_goals (refine Side.mk ⟨rfl, ?_, ?_⟩ <;> (simp [maxLen]; omega))))
end Go.Proofs
end
section
/- Contracts: sets of elements: top. -/
namespace Go.Proofs
open Go.Pm
set_option maxRecDepth 100000
set_option maxHeartbeats 4000000
theorem str_eq (a b : Str) : dEq (D.str a) (D.str b) = decide (a = b) := by
  show (a == b) = _
  rw [Bool.eq_iff_iff]; simp
theorem mixedT : Try.prog.follows .mixedOrders = true := by kernel_rfl
def upE (p : List (Str × Str)) : Ents := histE D.str (p.map fun q => (q.1, D.str q.2))
theorem lastV_map {β γ : Type} (f : β → γ) (a : Str) (l : List (Str × β)) : lastV a (l.map fun q => (q.1, f q.2)) = (lastV a l).map f := by
  induction l with
  | nil => rfl
  | cons q l ih =>
    simp only [List.map_cons, lastV, ih]
    cases lastV a l with
    | some v => rfl
    | none => by_cases h : q.1 = a <;> simp [h]
theorem up_find (p : List (Str × Str)) (x : Str) : findE (.str x) (upE p).1 = cond (lastV x p).isSome (some (.str ((lastV x p).getD []))) none := by
  rw [upE, histE_find str_eq, lastV_map]
  cases lastV x p <;> rfl
theorem c56r (p : List (Str × Str)) (x r : Str) (n : Nat) (ht : Top p x r n) : ACall Try.prog 56 [.agg [.map 0], .d (.str x)] ⟨[(0, .map (.one .str) (upE p).1 (upE p).2)], 1⟩ (Rd (fun v => v = .d (.str r)) (.map (.one .str) (upE p).1 (upE p).2)) := by
  refine ACall.intro Try.tabOk Try.f56 _ Try.func56 rfl (by decide) rfl fun z => ?_
  repeat' first
    | (with_reducible refine AW.seq ?_)
    | ((with_reducible refine AW.region Try.tabOk ?_); (conv => whnf))
    | ((with_reducible refine AW.block ?_))
  (try (any_goals (refine Side.mk ⟨rfl, ?_, ?_⟩ <;> (simp [maxLen]; omega))))
  refine AW.loopS (X := Str × Nat) [2] [1, 0] (fun y => [(1, .d (.str y.1))]) (fun i => []) (fun _ => 2)
    (fun y => Top p y.1 r y.2) (fun y => y.2) (x, n) ht (fun _ _ => rfl) (by refine ⟨rfl, rfl, rfl, ?_, ?_⟩ <;> repeat' (first | exact trivial | exact OLe.refl _ | exact AV.le_refl _ | apply And.intro)) ?_
  intro ⟨y, k⟩ hy
  dsimp only at hy ⊢
  repeat' first
    | (with_reducible refine AW.seq ?_)
    | ((with_reducible refine AW.region Try.tabOk ?_); (conv => whnf))
    | ((with_reducible refine AW.ret ?_); (conv => whnf))
    | ((with_reducible refine AW.block ?_))
    | ((with_reducible refine AW.skip ?_); (conv => whnf))
    | ((with_reducible refine AW.cond ?_); (conv => whnf))
    | (refine ⟨_, _, by first | exact up_find _ _, ?_⟩; (conv => whnf))
    | ((with_reducible apply Or.inr); (with_reducible apply And.intro) <;> (intro hb; (try simp at hb); (try (exfalso; first | omega | (simp_all; first | done | fail))); (try (conv => whnf))))
    | ((with_reducible apply And.intro) <;> (intro hb; (try simp at hb); (try (exfalso; first | omega | (simp_all; first | done | fail))); (try (conv => whnf))))
  (try (any_goals (refine Side.mk ⟨rfl, ?_, ?_⟩ <;> (simp [maxLen]; omega))))
  · refine ⟨rfl, ?_, OLe.refl _⟩
    cases hy with
    | stop _ _ => rfl
    | step _ y' _ _ h hne _ => rw [h] at hb; exact absurd hb hne
  · have h1 : (lastV y p).isSome = true := by assumption
    cases hy with
    | stop _ h' =>
      rcases h' with h' | h'
      · rw [h'] at h1; cases h1
      · rw [h'] at hb; exact absurd rfl hb
    | step _ y' _ k' h hne t =>
      exact .mk (y', k') t (Nat.lt_succ_self _) ⟨rfl, rfl, rfl, ⟨OLe.refl _, OLe.refl _, trivial⟩, ⟨AV.le_of_eq (by rw [h]; rfl), AV.le_refl _, trivial⟩, rfl⟩
  · refine ⟨rfl, ?_, OLe.refl _⟩
    cases hy with
    | stop _ _ => rfl
    | step _ y' _ _ h _ _ => rw [h] at hb; cases hb
/-- In whatever heap the map lies. -/
theorem c56 {p : List (Str × Str)} {x r : Str} {n : Nat} (ht : Top p x r n) {h : Heap} {b : Nat} (hget : h.get b = .map (.one .str) (upE p).1 (upE p).2) {K : AV → Heap → Prop} (hK : K (.d (.str r)) h) : ACall Try.prog 56 [.agg [.map b], .d (.str x)] h K := by
  refine ACall.read1 rfl (c56r p x r n ht) hget rfl (fun i c c' h1 h2 => ?_) fun v hv => by subst hv; exact hK
  match i, h1, h2 with
  | 0, h1, h2 => cases h1; cases h2; exact RenOk.agg1 .map
  | 1, h1, h2 => cases h1; cases h2; exact .dry _ rfl
  | i + 2, h1, h2 => simp at h1
end Go.Proofs
end
section
/- What is joined in a network: plain laws. -/
namespace Go.Proofs
open Go.Pm
set_option maxRecDepth 100000

def joinsW (l : List Str) : List (Str × Str) := l.map fun id => (id, l.getD 0 [])
def waysM (m : List Obj) : List Obj := m.filter (wayP m)
def joinsM (m : List Obj) : List (Str × Str) := (waysM m).flatMap fun o => joinsW o.refs
def usedM (m : List Obj) (id : Str) : Bool := (waysM m).any fun o => o.refs.contains id
def repM (m : List Obj) : Str → Str := topF (ufOf (joinsM m)) (ufOf (joinsM m)).length
def usedN (m l : List Obj) : List Str := (l.filter fun o => decide (o.kind = 1) && usedM m o.id).map (·.id)
def partsN (m : List Obj) : List (List Str) := if mapB m then partsBy (repM m) (usedN m m) else []

/-! ### The map of ways -/
def wEnts (F : List Obj) : List (Nat × D × D) := F.zipIdx.map fun q => (q.2, .str q.1.id, encStrs q.1.refs)
theorem wEnts_get {F : List Obj} {e : Nat × D × D} (h : e ∈ wEnts F) : ∃ i, ∃ hi : i < F.length, e = (i, .str F[i].id, encStrs F[i].refs) := by
  obtain ⟨q, hq, rfl⟩ := List.mem_map.1 h
  obtain ⟨o, i⟩ := q
  have := List.mem_zipIdx hq
  exact ⟨i, by omega, by simp [this.2.2]⟩
theorem wEnts_born (F : List Obj) : (∀ e ∈ wEnts F, e.1 < F.length) ∧ ((wEnts F).map (·.1)).Nodup := by
  constructor
  · intro e he
    obtain ⟨i, hi, rfl⟩ := wEnts_get he
    exact hi
  · have : (wEnts F).map (·.1) = List.range F.length := by
      rw [wEnts, List.map_map, List.range_eq_range', ← List.zipIdx_map_snd 0 F]
      rfl
    rw [this]; exact List.nodup_range
theorem wEnts_mem {F : List Obj} {i : Nat} (hi : i < F.length) : (i, D.str F[i].id, encStrs F[i].refs) ∈ wEnts F := by
  refine List.mem_map.2 ⟨(F[i], i), ?_, rfl⟩
  rw [List.mem_iff_getElem?]
  exact ⟨i, by simp [hi]⟩
theorem upd_new {k v : D} {c : Nat} : ∀ {es : List (Nat × D × D)}, (∀ q ∈ es, dEq k q.2.1 = false) → updE k v c es = es ++ [(c, k, v)] ∧ hasE k es = false
  | [], _ => ⟨rfl, rfl⟩
  | q :: r, h => by
    simp only [updE, hasE, h q (by simp), cond_false]
    obtain ⟨h1, h2⟩ := upd_new (k := k) (v := v) (c := c) (es := r) fun q hq => h q (by simp [hq])
    rw [h1, h2]; exact ⟨rfl, rfl⟩
theorem asc_lt {l : List Str} (h : ascP l) : ∀ i j, i < j → j < l.length → ltS (l.getD i []) (l.getD j []) = true := by
  intro i j hij
  induction j with
  | zero => omega
  | succ j ih =>
    intro hj
    have h1 := h j hj
    by_cases e : i = j
    · subst e; exact h1
    · exact ltS_trans (ih (by omega) (by omega)) h1
theorem map_asc {m : List Obj} (hm : mapB m = true) : ascP (m.map (·.id)) := by
  simp only [mapB, Bool.and_eq_true, decide_eq_true_eq] at hm
  exact hm.1.2
theorem ids_inj {m : List Obj} (hm : mapB m = true) {i j : Nat} (hi : i < m.length) (hj : j < m.length) (h : (m.getD i default).id = (m.getD j default).id) : i = j := by
  have ha := map_asc hm
  have e : ∀ k, (m.map (·.id)).getD k [] = (m.getD k default).id := fun k => map_getD (fun o : Obj => o.id) m k default
  rcases Nat.lt_trichotomy i j with h1 | h1 | h1
  · have := asc_lt ha i j h1 (by simpa using hj)
    rw [e, e, h] at this
    rw [ltS_irrefl] at this; cases this
  · exact h1
  · have := asc_lt ha j i h1 (by simpa using hi)
    rw [e, e, h] at this
    rw [ltS_irrefl] at this; cases this
theorem obj_inj {m : List Obj} (hm : mapB m = true) {a b : Obj} (ha : a ∈ m) (hb : b ∈ m) (h : a.id = b.id) : a = b := by
  obtain ⟨i, hi, rfl⟩ := List.mem_iff_getElem.1 ha
  obtain ⟨j, hj, rfl⟩ := List.mem_iff_getElem.1 hb
  have := ids_inj hm hi hj (by simpa [List.getD_eq_getElem?_getD, hi, hj] using h)
  subst this; rfl
theorem waysF_take {m : List Obj} (hm : mapB m = true) : ∀ i, i ≤ m.length → waysF m (m.take i) = (wEnts ((m.take i).filter (wayP m)), ((m.take i).filter (wayP m)).length)
  | 0, _ => rfl
  | i + 1, hi => by
    rw [waysF_step (by omega), waysF_take hm i (by omega), take_succ_getD m i default (by omega), List.filter_append]
    unfold wayStep entStep
    cases hp : wayP m (m.getD i default) with
    | false => rw [List.filter_cons, hp, List.filter_nil]; simp
    | true =>
      have hnew : ∀ q ∈ wEnts ((m.take i).filter (wayP m)), dEq (.str (m.getD i default).id) q.2.1 = false := by
        intro q hq
        obtain ⟨j, hj, rfl⟩ := wEnts_get hq
        show ((m.getD i default).id == _) = false
        rw [beq_eq_false_iff_ne]
        intro e
        have hmem := (List.mem_filter.1 (List.getElem_mem hj)).1
        obtain ⟨k, hk, hk2⟩ := List.mem_iff_getElem.1 hmem
        rw [List.length_take] at hk
        rw [List.getElem_take] at hk2
        have := ids_inj hm (i := i) (j := k) (by omega) (by omega) (by rw [e, ← hk2]; simp [List.getD_eq_getElem?_getD, show k < m.length by omega])
        omega
      obtain ⟨h1, h2⟩ := upd_new (v := encStrs (m.getD i default).refs) (c := ((m.take i).filter (wayP m)).length) hnew
      simp only [if_true, addM, h1, h2, cond_false]
      rw [List.filter_cons, hp, if_pos rfl, List.filter_nil]
      rw [List.length_append]
      refine Prod.ext ?_ rfl
      simp [wEnts, List.zipIdx_append]
theorem waysF_eq {m : List Obj} (hm : mapB m = true) : waysF m m = (wEnts (waysM m), (waysM m).length) := by
  have := waysF_take hm m.length (Nat.le_refl _)
  rwa [List.take_length] at this
theorem waysM_len {m : List Obj} (hm : mapB m = true) {o : Obj} (ho : o ∈ waysM m) : 2 ≤ o.refs.length ∧ o.refs.length ≤ 2000 := by
  obtain ⟨h1, h2⟩ := List.mem_filter.1 ho
  simp only [mapB, Bool.and_eq_true, List.all_eq_true] at hm
  have hob := hm.1.1 o h1
  simp only [wayP, Bool.and_eq_true, decide_eq_true_eq] at h2
  simp only [objB, Bool.and_eq_true] at hob
  have := hob.1.1.2
  rw [h2.1] at this
  simp [countB] at this
  omega
/-! ### What is joined -/
theorem joinsW_ok {l : List Str} : okJ (joinsW l) := by
  intro i q hq
  rw [joinsW, List.getElem?_map, Option.map_eq_some_iff] at hq
  obtain ⟨id, hid, rfl⟩ := hq
  by_cases h0 : i = 0
  · subst h0
    left
    show id = l.getD 0 []
    rw [List.getD_eq_getElem?_getD, hid]; rfl
  · right
    have hi := (List.getElem?_eq_some_iff.1 hid).1
    refine ⟨l.getD 0 [], ?_⟩
    rw [List.mem_iff_getElem?]
    refine ⟨0, ?_⟩
    rw [List.getElem?_take, if_pos (by omega), joinsW, List.getElem?_map]
    have : l[0]? = some (l.getD 0 []) := by rw [List.getD_eq_getElem?_getD, List.getElem?_eq_getElem (by omega)]; rfl
    rw [this]; rfl
theorem okJ_append {J K : List (Str × Str)} (hJ : okJ J) (hK : okJ K) : okJ (J ++ K) := by
  intro i q hq
  by_cases hi : i < J.length
  · rw [List.getElem?_append_left hi] at hq
    rcases hJ i q hq with h | ⟨b, h⟩
    · exact .inl h
    · exact .inr ⟨b, by rw [List.take_append_of_le_length (by omega)]; exact h⟩
  · rw [List.getElem?_append_right (by omega)] at hq
    rcases hK _ q hq with h | ⟨b, h⟩
    · exact .inl h
    · refine .inr ⟨b, ?_⟩
      rw [List.take_append]
      exact List.mem_append_right _ h
theorem okJ_flat (F : List Obj) : okJ (F.flatMap fun o => joinsW o.refs) := by
  induction F with
  | nil => intro i q hq; simp at hq
  | cons o F ih => rw [List.flatMap_cons]; exact okJ_append joinsW_ok ih
theorem uf_m (m : List Obj) : Uf (ufOf (joinsM m)) (joinsM m) := ufOf_ok _ (okJ_flat _)
theorem repM_conn (m : List Obj) (x y : Str) : repM m x = repM m y ↔ Conn (joinsM m) x y := by
  have h := uf_m m
  obtain ⟨r, n, t, l⟩ := h.tot x
  obtain ⟨r', n', t', l'⟩ := h.tot y
  rw [← h.eqv x y r n r' n' t t']
  unfold repM
  rw [t.eval l, t'.eval l']
theorem used_key {m : List Obj} {x : Str} : usedM m x = true ↔ ∃ b, (x, b) ∈ joinsM m := by
  simp only [usedM, List.any_eq_true, List.contains_iff_mem, joinsM, List.mem_flatMap, joinsW, List.mem_map, Prod.mk.injEq]
  constructor
  · rintro ⟨o, h1, h2⟩
    exact ⟨_, o, h1, x, h2, rfl, rfl⟩
  · rintro ⟨b, o, h1, id, h2, rfl, _⟩
    exact ⟨o, h1, h2⟩
/-- A state of sets in which all is joined that is to be joined. -/
theorem conn_all {m : List Obj} {J : List (Str × Str)} (h1 : ∀ q ∈ J, q ∈ joinsM m) (h2 : ∀ q ∈ joinsM m, q ∈ J) {x y : Str} : Conn J x y ↔ Conn (joinsM m) x y :=
  ⟨fun c => c.mono h1, fun c => c.mono h2⟩
end Go.Proofs
end
section
/- Contracts: the parts of a network. -/
namespace Go.Proofs
open Go.Pm
set_option maxRecDepth 100000
set_option maxHeartbeats 4000000

theorem mapStr_ways {m : List Obj} (hm : mapB m = true) : mapStr (waysF m m) = .mapd (.one .str) (wEnts (waysM m)) (waysM m).length := by
  rw [waysF_eq hm]; rfl
def netW (m : List Obj) : D := .ptr [encObjs m, mapStr (nodesF m), .mapd (.one .str) (wEnts (waysM m)) (waysM m).length]
theorem netW_eq {m : List Obj} (hm : mapB m = true) : netD m = netW m := by
  unfold netD netW; rw [mapStr_ways hm]
theorem upE_snoc (p : List (Str × Str)) (a b : Str) : upE (p ++ [(a, b)]) = addM (.str a) (.str b) (upE p) := by
  rw [upE, List.map_append]; exact histE_snoc _ _ _ _
theorem joinsW_get {R : List Str} {j : Nat} (h : j < R.length) : (joinsW R)[j]? = some (R.getD j [], R.getD 0 []) := by
  rw [joinsW, List.getElem?_map, List.getD_eq_getElem?_getD (i := j), List.getElem?_eq_getElem h]; rfl
theorem joinsW_take {R : List Str} {j : Nat} (h : j < R.length) : (joinsW R).take (j + 1) = (joinsW R).take j ++ [(R.getD j [], R.getD 0 [])] := by
  rw [List.take_add_one, joinsW_get h]; rfl
theorem nodup_len : ∀ (n : Nat) (l : List Nat), l.Nodup → (∀ x ∈ l, x < n) → l.length ≤ n
  | 0, l, _, h => by
    cases l with
    | nil => exact Nat.le_refl _
    | cons x l => exact absurd (h x (by simp)) (Nat.not_lt_zero _)
  | n + 1, l, hn, h => by
    have := nodup_len n (l.erase n) (hn.erase n) (fun x hx => by
      have := (hn.mem_erase_iff).1 hx
      have := h x this.2
      omega)
    have h2 := List.length_erase (a := n) (l := l)
    split at h2 <;> omega
def atE (ks : List Str) : Ents := histE D.str (ks.zipIdx.map fun q => (q.1, D.int .i64 (q.2 : Int)))
theorem atE_snoc (ks : List Str) (k : Str) : atE (ks ++ [k]) = addM (.str k) (.int .i64 (ks.length : Int)) (atE ks) := by
  rw [atE, List.zipIdx_append, List.map_append]
  simp only [List.zipIdx_cons, List.zipIdx_nil, List.map_cons, List.map_nil]
  rw [histE_snoc, Nat.zero_add]; rfl
theorem at_find {ks : List Str} (hn : ks.Nodup) (k : Str) : findE (.str k) (atE ks).1 = cond (keyIx ks k).isSome (some (.int .i64 (((keyIx ks k).getD 0 : Nat) : Int))) none := by
  induction ks using snoc_ind with
  | nil => rfl
  | snoc ks a ih =>
    rw [List.nodup_append] at hn
    have ih := ih hn.1
    rw [atE_snoc]
    show findE (.str k) (updE (.str a) _ _ _) = _
    rw [findE_upd, ih]
    unfold keyIx
    rw [List.findIdx?_append]
    by_cases h : k = a
    · subst h
      have h0 : ks.findIdx? (fun q => decide (q = k)) = none := by
        rw [List.findIdx?_eq_none_iff]
        intro x hx
        rw [decide_eq_false_iff_not]
        rintro rfl
        exact hn.2.2 x hx x (by simp) rfl
      rw [h0]; simp
    · have e : (k == a) = false := by simp [h]
      rw [e]
      have e2 : List.findIdx? (fun q => decide (q = k)) [a] = none := by simp [Ne.symm h]
      rw [e2]
      cases ks.findIdx? (fun q => decide (q = k)) <;> simp
theorem partsF_nodup {κ : Type} [DecidableEq κ] (f : Str → κ) (l : List Str) : ((partsF f l).map (·.1)).Nodup := by
  induction l using snoc_ind with
  | nil => simp [partsF]
  | snoc l x ih =>
    have e1 : partsF f (l ++ [x]) = stepP f (partsF f l) x := by rw [partsF, List.foldl_append]; rfl
    rw [e1]
    unfold stepP
    split
    · rename_i i hi
      have : ((partsF f l).modify i fun q => (q.1, q.2 ++ [x])).map (·.1) = (partsF f l).map (·.1) := by
        apply List.ext_getElem?
        intro j
        simp only [List.getElem?_map, List.getElem?_modify]
        cases (partsF f l)[j]? <;> simp <;> split <;> rfl
      rw [this]; exact ih
    · rename_i hi
      rw [List.map_append, List.nodup_append]
      refine ⟨ih, by simp, fun a ha b hb => ?_⟩
      simp at hb; subst hb
      rw [keyIx, List.findIdx?_eq_none_iff] at hi
      have := hi a ha
      rw [decide_eq_false_iff_not] at this
      exact this
theorem partsF_len {κ : Type} [DecidableEq κ] (f : Str → κ) (l : List Str) : (partsF f l).length ≤ l.length := by
  induction l using snoc_ind with
  | nil => simp [partsF]
  | snoc l x ih =>
    have e1 : partsF f (l ++ [x]) = stepP f (partsF f l) x := by rw [partsF, List.foldl_append]; rfl
    rw [e1]
    unfold stepP
    split <;> simp <;> omega
theorem partsF_mem_len {κ : Type} [DecidableEq κ] (f : Str → κ) (l : List Str) : ∀ q ∈ partsF f l, q.2.length ≤ l.length := by
  induction l using snoc_ind with
  | nil => simp [partsF]
  | snoc l x ih =>
    have e1 : partsF f (l ++ [x]) = stepP f (partsF f l) x := by rw [partsF, List.foldl_append]; rfl
    rw [e1]
    intro q hq
    rw [List.length_append, List.length_singleton]
    unfold stepP at hq
    split at hq
    · rename_i i hi
      obtain ⟨j, hj⟩ := List.mem_iff_getElem?.1 hq
      rw [List.getElem?_modify] at hj
      cases h : (partsF f l)[j]? with
      | none => rw [h] at hj; simp at hj
      | some q' =>
        rw [h] at hj
        have := ih q' (List.mem_of_getElem? h)
        simp at hj
        split at hj <;> subst hj
        · simp; omega
        · omega
    · rcases List.mem_append.1 hq with hq | hq
      · have := ih q hq; omega
      · simp at hq; subst hq; simp
theorem usedN_len (m : List Obj) (i : Nat) : (usedN m (m.take i)).length ≤ i := by
  unfold usedN
  rw [List.length_map]
  exact Nat.le_trans (List.length_filter_le _ _) (by rw [List.length_take]; omega)
theorem usedN_step {m : List Obj} {i : Nat} (h : i < m.length) : usedN m (m.take (i + 1)) = usedN m (m.take i) ++ (if (decide ((m.getD i default).kind = 1) && usedM m (m.getD i default).id) = true then [(m.getD i default).id] else []) := by
  unfold usedN
  rw [take_succ_getD m i default h, List.filter_append, List.map_append]
  congr 1
  rw [List.filter_cons, List.filter_nil]
  split <;> rfl
theorem partsF_snoc {κ : Type} [DecidableEq κ] (f : Str → κ) (l : List Str) (x : Str) : partsF f (l ++ [x]) = stepP f (partsF f l) x := by rw [partsF, List.foldl_append]; rfl
theorem c22 (m : List Obj) : PCall Try.prog 22 [.d (encMap m)] fun x => x = .d (encLists (partsN m)) := by
  refine PCall.res ?_ rfl
  refine PCall.intro Try.tabOk Try.f22 _ Try.func22 rfl (by decide) rfl fun z => ?_
  cases hm : mapB m with
  | false =>
    have c46f : PCall Try.prog 46 [.d (encMap m)] fun x => x = .tup [.d .nilp, .d (.bool false)] := by have := c46 m; rwa [hm] at this
    repeat' first
      | (with_reducible refine AW.seq ?_)
      | ((with_reducible refine AW.region Try.tabOk ?_); (conv => whnf))
      | ((with_reducible refine AW.ret ?_); (conv => whnf))
      | ((with_reducible refine AW.cond ?_); (conv => whnf))
      | ((with_reducible refine ACall.id ?_); (refine PCall.call (by first | exact c46f) rfl ?_); (intro x hx; first | subst hx | (obtain ⟨l_, rfl, hl_⟩ := hx.out)); (conv => whnf))
      | ((with_reducible apply And.intro) <;> (intro hb; (try simp at hb); (try (exfalso; first | omega | (simp_all; first | done | fail))); (try (conv => whnf))))
    (try (any_goals (refine Side.mk ⟨rfl, ?_, ?_⟩ <;> first | (simp [maxLen]; done) | (simp [maxLen]; omega))))
    exact .nils (by simp [partsN, hm])
  | true =>
  have c46t : PCall Try.prog 46 [.d (encMap m)] fun x => x = .tup [.d (netW m), .d (.bool true)] := by have := c46 m; rwa [hm, netW_eq hm] at this
  repeat' first
    | (with_reducible refine AW.seq ?_)
    | ((with_reducible refine AW.region Try.tabOk ?_); (conv => whnf))
    | ((with_reducible refine AW.block ?_))
    | ((with_reducible refine AW.skip ?_); (conv => whnf))
    | ((with_reducible refine AW.cond ?_); (conv => whnf))
    | ((with_reducible refine ACall.id ?_); (refine PCall.call (by first | exact c46t) rfl ?_); (intro x hx; first | subst hx | (obtain ⟨l_, rfl, hl_⟩ := hx.out)); (conv => whnf))
    | ((with_reducible apply And.intro); (focus (first | omega | assumption | (exact True.intro) | (simp; omega) | (exact Nat.le_of_ble_eq_true rfl) | (exact ⟨rfl, Nat.le_of_ble_eq_true rfl⟩) | (exact ⟨Nat.le_of_ble_eq_true rfl, Nat.le_of_ble_eq_true rfl⟩) | (intro hg; first | (simp; first | done | fail) | (simp at hg ⊢; exact hg) | (simp at hg; exact hg) | exact hg))); (conv => whnf))
    | ((with_reducible apply And.intro) <;> (intro hb; (try simp at hb); (try (exfalso; first | omega | (simp_all; first | done | fail))); (try (conv => whnf))))
  (try (any_goals (refine Side.mk ⟨rfl, ?_, ?_⟩ <;> first | (simp [maxLen]; done) | (simp [maxLen]; omega))))
  refine AW.loopS (X := List Nat × List (Str × Str) × List (Str × Str)) [32, 5, 3, 2] [2, 0] (fun i => []) (fun x => [(3, .diter (.one .str) (wEnts (waysM m)) (waysM m).length (waysM m).length x.1 (waysM m).length), (1, .map (.one .str) (upE x.2.2).1 (upE x.2.2).2)]) (fun _ => 4)
    (fun x => Uf x.2.2 x.2.1 ∧ (∀ q ∈ x.2.1, q ∈ joinsM m) ∧ (∀ i ∈ x.1, i < (waysM m).length ∧ ∀ q ∈ joinsW ((waysM m).getD i default).refs, q ∈ x.2.1) ∧ x.1.Nodup) (fun x => (waysM m).length - x.1.length) ([], [], []) ⟨Uf.nil, fun q h => absurd h (by simp), fun i h => absurd h (by simp), List.nodup_nil⟩ (fun _ _ => rfl) (by refine ⟨rfl, rfl, rfl, ?_, ?_⟩ <;> repeat' (first | exact trivial | exact OLe.refl _ | exact AV.le_refl _ | apply And.intro)) ?_
  intro ⟨seen, J, p⟩ ⟨huf, hJ, hseen, hnd⟩
  dsimp only at huf hJ hseen hnd ⊢
  repeat' first
    | (with_reducible refine AW.seq ?_)
    | ((with_reducible refine AW.region Try.tabOk ?_); (conv => whnf))
    | ((with_reducible refine AW.block ?_))
    | ((with_reducible refine AW.exit ?_); (conv => whnf))
    | ((with_reducible refine AW.skip ?_); (conv => whnf))
    | ((with_reducible refine AW.cond ?_); (conv => whnf))
    | ((with_reducible apply And.intro); (focus (first | omega | assumption | (exact True.intro) | (simp; omega) | (exact Nat.le_of_ble_eq_true rfl) | (exact ⟨rfl, Nat.le_of_ble_eq_true rfl⟩) | (exact ⟨Nat.le_of_ble_eq_true rfl, Nat.le_of_ble_eq_true rfl⟩) | (intro hg; first | (simp; first | done | fail) | (simp at hg ⊢; exact hg) | (simp at hg; exact hg) | exact hg))); (conv => whnf))
    | ((with_reducible apply And.intro) <;> (intro hb; (try simp at hb); (try (exfalso; first | omega | (simp_all; first | done | fail))); (try (conv => whnf))))
    | (intro hlen; (conv => whnf))
    | ((with_reducible refine And.intro (Side.out ?_) ?_); rotate_left; (conv => whnf); rotate_right)
  (try (any_goals (refine Side.mk ⟨rfl, ?_, ?_⟩ <;> first | (simp [maxLen]; done) | (simp [maxLen]; omega))))
  · exact ⟨Nat.le_refl _, (wEnts_born _).1⟩
  · have hmem : hb ∈ wEnts (waysM m) := by assumption
    have hns : ¬hb.1 ∈ seen := by assumption
    obtain ⟨i, hi, rfl⟩ := wEnts_get hmem
    dsimp only at hns
    refine ⟨_, hmem, by simp, rfl, (wEnts_born _).2, ?_⟩
    (conv => whnf)
    repeat' first
      | (with_reducible refine AW.seq ?_)
      | ((with_reducible refine AW.region Try.tabOk ?_); (conv => whnf))
      | ((with_reducible refine AW.block ?_))
      | (intro hlen; (conv => whnf))
    (try (any_goals (refine Side.mk ⟨rfl, ?_, ?_⟩ <;> first | (simp [maxLen]; done) | (simp [maxLen]; omega))))
    obtain ⟨R, hR⟩ : ∃ R, R = (waysM m)[i].refs := ⟨_, rfl⟩
    have hRl : 2 ≤ R.length ∧ R.length ≤ 2000 := by rw [hR]; exact waysM_len hm (List.getElem_mem hi)
    refine AW.loopS (X := Nat × List (Str × Str)) [5, 3, 2, 32] [2, 0] (fun y => [(39, .d (.int .i64 (y.1 : Int))), (38, .d (.int .i64 (R.length : Int))), (37, .d (encStrs R)), (7, .d (encStrs R))]) (fun y => [(3, .diter (.one .str) (wEnts (waysM m)) (waysM m).length (waysM m).length (seen ++ [i]) (waysM m).length), (1, .map (.one .str) (upE y.2).1 (upE y.2).2)]) (fun _ => 4)
      (fun y => y.1 ≤ R.length ∧ Uf y.2 (J ++ (joinsW R).take y.1)) (fun y => R.length - y.1) (0, p) ⟨Nat.zero_le _, by rw [List.take_zero, List.append_nil]; exact huf⟩ (fun _ _ => rfl) (by subst hR; exact (by refine ⟨rfl, rfl, rfl, ?_, ?_⟩ <;> repeat' (first | exact trivial | exact OLe.refl _ | exact AV.le_refl _ | apply And.intro))) ?_
    intro ⟨j, p'⟩ ⟨hj, huf'⟩
    dsimp only at hj huf' ⊢
    obtain ⟨ra, na, ta, _⟩ := huf'.tot (R.getD j [])
    obtain ⟨rb, nb, tb, _⟩ := huf'.tot (R.getD 0 [])
    repeat' first
      | (with_reducible refine AW.seq ?_)
      | ((with_reducible refine AW.region Try.tabOk ?_); (conv => whnf))
      | ((with_reducible refine AW.drawP Try.tabOk Try.mixed ?_ ?_); (focus rfl); (conv => whnf))
      | ((with_reducible refine AW.block ?_))
      | ((with_reducible refine AW.exit ?_); (conv => whnf))
      | ((with_reducible refine AW.skip ?_); (conv => whnf))
      | ((with_reducible refine AW.cond ?_); (conv => whnf))
      | ((with_reducible refine ACall.id ?_); (refine c56 tb rfl ?_); (conv => whnf))
      | ((with_reducible refine ACall.id ?_); (refine ACall.intro Try.tabOk Try.f55 _ Try.func55 rfl (by decide) rfl ?_); intro z_)
      | (refine ⟨_, ⟨rfl, rfl⟩, ?_⟩; (conv => whnf))
      | (apply Exists.intro; apply And.intro; (focus (first | (intro hg; (conv => whnf)) | (conv => whnf)); (repeat' first | (with_reducible exact ⟨rfl, rfl⟩) | ((with_reducible refine Own2.data ?_); (conv => whnf)) | (refine ⟨true, _, rfl, ?_⟩; (conv => whnf)) | (refine ⟨false, .nilp, rfl, ?_⟩; (conv => whnf)) | (refine ⟨_, _, by first | fail, ?_⟩; (conv => whnf)) | ((with_reducible apply Or.inl); (refine ⟨rfl, rfl, ?_⟩); (conv => whnf)) | ((with_reducible apply Or.inl); (with_reducible apply And.intro); (focus (first | assumption | (simp only [rng]; omega) | (simp [rng, IntKind.bits]; omega))); (conv => whnf)) | (refine ⟨by first | omega | (simp; omega) | (simp at hg ⊢; omega) | (refine ⟨rfl, ?_, ?_⟩ <;> first | (simp [maxLen]; done) | (simp [maxLen]; omega)) | (simp_all; first | done | fail), ?_⟩; (conv => whnf)) | ((with_reducible refine ACall.id ?_); (refine PCall.call (by first | fail) rfl ?_); (intro x hx; first | subst hx | (obtain ⟨l_, rfl, hl_⟩ := hx.out)); (conv => whnf)) | ((with_reducible refine ACall.id ?_); (refine c56 ta rfl ?_); (with_reducible exact ⟨rfl, rfl⟩)) | ((with_reducible refine ACall.id ?_); (refine c56 tb rfl ?_); (with_reducible exact ⟨rfl, rfl⟩)) | ((with_reducible apply Or.inr); (with_reducible exact ⟨rfl, rfl⟩)) | ((with_reducible apply Or.inr); (with_reducible apply And.intro) <;> (intro hb_; first | (cases hb_; done) | (conv => whnf))) | (intro hlen; (conv => whnf))); done); (conv => whnf))
      | ((with_reducible apply Or.inl); (with_reducible apply And.intro); (focus (first | assumption | (simp only [rng]; omega) | (simp [rng, IntKind.bits]; omega))); (conv => whnf))
      | ((with_reducible apply And.intro); (focus (first | omega | assumption | (exact True.intro) | (simp; omega) | (exact Nat.le_of_ble_eq_true rfl) | (exact ⟨rfl, Nat.le_of_ble_eq_true rfl⟩) | (exact ⟨Nat.le_of_ble_eq_true rfl, Nat.le_of_ble_eq_true rfl⟩) | (intro hg; first | (simp; first | done | fail) | (simp at hg ⊢; exact hg) | (simp at hg; exact hg) | exact hg))); (conv => whnf))
      | ((with_reducible apply And.intro) <;> (intro hb; (try simp at hb); (try (exfalso; first | omega | (simp_all; first | done | fail))); (try (conv => whnf))))
    (try (any_goals (refine Side.mk ⟨rfl, ?_, ?_⟩ <;> first | (simp [maxLen]; done) | (simp [maxLen]; omega))))
    · have hjl : j < R.length := by assumption
      have hk : (lastV (R.getD 0 []) p').isSome = true ∨ R.getD j [] = R.getD 0 [] := by
        by_cases h0 : j = 0
        · right; rw [h0]
        · left; rw [huf'.key]
          refine ⟨R.getD 0 [], List.mem_append_right _ ?_⟩
          rw [List.mem_iff_getElem?]
          exact ⟨0, by rw [List.getElem?_take, if_pos (by omega)]; exact joinsW_get (by omega)⟩
      have hu := huf'.join ta tb hk
      rw [List.append_assoc, ← joinsW_take hjl] at hu
      have q1 : addM (.str ra) (.str rb) (upE p') = upE (p' ++ [(ra, rb)]) := (upE_snoc _ _ _).symm
      exact .mk (j + 1, p' ++ [(ra, rb)]) ⟨hjl, hu⟩ (by show R.length - (j + 1) < R.length - j; omega) ⟨rfl, rfl, rfl, ⟨OLe.refl _, ole_map q1, OLe.refl _, OLe.refl _, trivial⟩, ⟨AV.le_refl _, AV.le_refl _, AV.le_refl _, AV.le_refl _, AV.le_refl _, AV.le_refl _, AV.le_refl _, AV.le_refl _, trivial⟩, rfl⟩
    · have hge : R.length ≤ j := by assumption
      rw [List.take_of_length_le (by rw [joinsW, List.length_map]; omega)] at huf'
      have hRi : R = ((waysM m).getD i default).refs := by rw [hR, List.getD_eq_getElem?_getD, List.getElem?_eq_getElem hi]; rfl
      have hnd2 : (seen ++ [i]).Nodup := by
        rw [List.nodup_append]
        exact ⟨hnd, by simp, fun a ha b hb => by simp at hb; subst hb; rintro rfl; exact hns ha⟩
      have hlen2 := nodup_len (waysM m).length (seen ++ [i]) hnd2 (fun x hx => by
        rcases List.mem_append.1 hx with hx | hx
        · exact (hseen x hx).1
        · simp at hx; subst hx; exact hi)
      rw [List.length_append, List.length_singleton] at hlen2
      refine .mk (seen ++ [i], J ++ joinsW R, p') ⟨huf', fun q hq => ?_, fun k hk => ?_, hnd2⟩ (by show (waysM m).length - (seen ++ [i]).length < (waysM m).length - seen.length; rw [List.length_append, List.length_singleton]; omega) ⟨rfl, rfl, rfl, ⟨OLe.refl _, OLe.refl _, OLe.refl _, OLe.refl _, trivial⟩, ⟨AV.le_refl _, AV.le_refl _, AV.le_refl _, AV.le_refl _, trivial⟩, rfl⟩
      · rcases List.mem_append.1 hq with hq | hq
        · exact hJ q hq
        · rw [joinsM, List.mem_flatMap]
          exact ⟨(waysM m)[i], List.getElem_mem hi, by rw [← hR]; exact hq⟩
      · rcases List.mem_append.1 hk with hk | hk
        · exact ⟨(hseen k hk).1, fun q hq => List.mem_append_left _ ((hseen k hk).2 q hq)⟩
        · simp at hk; subst hk
          exact ⟨hi, fun q hq => List.mem_append_right _ (by rw [hRi]; exact hq)⟩
  have hall : ∀ q ∈ joinsM m, q ∈ J := by
    intro q hq
    rw [joinsM, List.mem_flatMap] at hq
    obtain ⟨o, ho, hq⟩ := hq
    obtain ⟨i, hi, rfl⟩ := List.mem_iff_getElem.1 ho
    refine (hseen i (hb _ _ _ (wEnts_mem hi))).2 q ?_
    rw [List.getD_eq_getElem?_getD, List.getElem?_eq_getElem hi]; exact hq
  have hcon : ∀ x y, topF p p.length x = topF p p.length y ↔ repM m x = repM m y := by
    intro x y
    obtain ⟨r, n, t, l⟩ := huf.tot x
    obtain ⟨r', n', t', l'⟩ := huf.tot y
    rw [repM_conn, t.eval l, t'.eval l', huf.eqv x y r n r' n' t t']
    exact conn_all hJ hall
  have hused : ∀ x, (lastV x p).isSome = usedM m x := by
    intro x
    rw [Bool.eq_iff_iff, huf.key, used_key]
    exact ⟨fun ⟨b, h⟩ => ⟨b, hJ _ h⟩, fun ⟨b, h⟩ => ⟨b, hall _ h⟩⟩
  refine AW.growN 10 39 9 1 rfl rfl ?_
  refine AW.loopS (X := Nat × Nat) [55, 54, 11, 5, 2] [1, 2, 0] (fun x => [(56, .d (.int .i64 (x.1 : Int))), (10, .own 5 (x.2 + 1) 1)]) (fun x => [(4, .map (.one .str) (atE ((partsF (topF p p.length) (usedN m (m.take x.1))).map (·.1))).1 (atE ((partsF (topF p p.length) (usedN m (m.take x.1))).map (·.1))).2), (5, .nest 39 9 1 ((partsF (topF p p.length) (usedN m (m.take x.1))).map fun q => q.2.map D.str) (x.2 + 1) none)]) (fun _ => 6)
    (fun x => x.1 ≤ m.length) (fun x => m.length - x.1) (0, 0) (Nat.zero_le _) (fun _ _ => rfl) (by refine ⟨rfl, rfl, rfl, ?_, ?_⟩ <;> repeat' (first | exact trivial | exact OLe.refl _ | exact AV.le_refl _ | apply And.intro)) ?_
  intro ⟨i, v⟩ hi
  dsimp only at hi ⊢
  generalize hPS : partsF (topF p p.length) (usedN m (m.take i)) = PS
  have hkn : (PS.map (·.1)).Nodup := by rw [← hPS]; exact partsF_nodup _ _
  obtain ⟨r, n, t, l⟩ := huf.tot ((m.getD (i : Int).toNat default).id)
  have hpl : PS.length ≤ i := by rw [← hPS]; exact Nat.le_trans (partsF_len _ _) (usedN_len m i)
  have hm6 := map_len6 hm
  have hev : topF p p.length (m.getD i default).id = r := t.eval l
  repeat' first
    | (with_reducible refine AW.stop 26 ?_)
    | (with_reducible refine AW.seq ?_)
    | ((with_reducible refine AW.region Try.tabOk ?_); (conv => whnf))
    | ((with_reducible refine AW.ret ?_); (conv => whnf))
    | ((with_reducible refine AW.block ?_))
    | ((with_reducible refine AW.exit ?_); (conv => whnf))
    | ((with_reducible refine AW.skip ?_); (conv => whnf))
    | ((with_reducible refine AW.cond ?_); (conv => whnf))
    | ((with_reducible refine Own2.data ?_); (conv => whnf))
    | ((with_reducible refine ACall.id ?_); (refine c56 t rfl ?_); (conv => whnf))
    | (refine ⟨_, _, by first | exact up_find _ _ | exact at_find hkn _, ?_⟩; (conv => whnf))
    | ((with_reducible apply Or.inl); (with_reducible apply And.intro); (focus (first | assumption | (simp only [rng]; omega) | (simp [rng, IntKind.bits]; omega))); (conv => whnf))
    | ((with_reducible apply Or.inr); (with_reducible apply And.intro) <;> (intro hb; (try simp at hb); (try (exfalso; first | omega | (simp_all; first | done | fail))); (try (conv => whnf))))
    | ((with_reducible apply And.intro); (focus (first | omega | assumption | (exact True.intro) | (simp; omega) | (exact Nat.le_of_ble_eq_true rfl) | (exact ⟨rfl, Nat.le_of_ble_eq_true rfl⟩) | (exact ⟨Nat.le_of_ble_eq_true rfl, Nat.le_of_ble_eq_true rfl⟩) | (intro hg; first | (simp; first | done | fail) | (simp at hg ⊢; exact hg) | (simp at hg; exact hg) | exact hg))); (conv => whnf))
    | ((with_reducible apply And.intro) <;> (intro hb; (try simp at hb); (try (exfalso; first | omega | (simp_all; first | done | fail))); (try (conv => whnf))))
    | (intro hlen; (conv => whnf))
    | ((with_reducible refine And.intro (Side.out ?_) ?_); rotate_left; (conv => whnf); rotate_right)
  (try (any_goals (refine Side.mk ⟨rfl, ?_, ?_⟩ <;> first | (simp [maxLen]; done) | (simp [maxLen]; omega))))
  · have hit : i < m.length := by assumption
    have hst := usedN_step (m := m) hit
    rw [if_neg (by rw [List.getD_eq_getElem?_getD]; simp [hb])] at hst
    rw [List.append_nil] at hst
    exact .mk (i + 1, v) hit (by show m.length - (i + 1) < m.length - i; omega) ⟨rfl, rfl, rfl, ⟨ole_map (by rw [hst, hPS]), OLe.of (by rw [hst, hPS]; rfl), OLe.refl _, OLe.refl _, OLe.refl _, trivial⟩, ⟨AV.le_refl _, AV.le_refl _, AV.le_refl _, AV.le_refl _, AV.le_refl _, AV.le_refl _, AV.le_refl _, trivial⟩, rfl⟩
  · have hit : i < m.length := by assumption
    have hkd : (m[i]?.getD default).kind = 1 := by assumption
    have hus : (lastV (m[i]?.getD default).id p).isSome = true := by assumption
    rw [hused] at hus
    have hst := usedN_step (m := m) hit
    rw [if_pos (by rw [List.getD_eq_getElem?_getD, hkd, hus]; rfl)] at hst
    obtain ⟨k, hk⟩ : ∃ k, keyIx (PS.map (·.1)) r = some k := by
      cases hx : keyIx (PS.map (·.1)) r with
      | some k => exact ⟨k, rfl⟩
      | none => rw [hx] at hb; cases hb
    have hkl : k < PS.length := by
      have := (List.findIdx?_eq_some_iff_getElem.1 hk).1
      simpa using this
    have hPS2 : partsF (topF p p.length) (usedN m (m.take (i + 1))) = PS.modify k fun q => (q.1, q.2 ++ [(m.getD i default).id]) := by
      rw [hst, partsF_snoc, hPS, stepP, hev, hk]
    refine ⟨?_⟩
    refine AW.holeOut 5 ((keyIx (PS.map (·.1)) r).getD 0) rfl rfl (by rw [hk]; simpa using hkl) ?_
    rw [hk]
    have hlk : ((PS.map fun q => q.2.map D.str).getD ((some k).getD 0) []).length ≤ 1000000 := by
      rw [List.getD_eq_getElem?_getD, List.getElem?_map, Option.getD_some, List.getElem?_eq_getElem hkl]
      have h1 := partsF_mem_len (topF p p.length) (usedN m (m.take i)) PS[k] (by rw [hPS]; exact List.getElem_mem hkl)
      have h2 := usedN_len m i
      simp only [Option.map_some, Option.getD_some, List.length_map]
      omega
    have hlE : (PS.map fun q => q.2.map D.str).getD ((some k).getD 0) [] = PS[k].2.map D.str := by
      rw [List.getD_eq_getElem?_getD, List.getElem?_map, Option.getD_some, List.getElem?_eq_getElem hkl]; rfl
    generalize (PS.map fun q => q.2.map D.str).getD ((some k).getD 0) [] = lk at hlk hlE ⊢
    repeat' first
      | (with_reducible refine AW.stop 27 ?_)
      | ((with_reducible refine AW.drawI Try.tabOk Try.mixed ?_ ?_); (focus rfl); (conv => whnf))
      | (refine ⟨_, ⟨rfl, rfl⟩, ?_⟩; (conv => whnf))
      | (apply Exists.intro; apply And.intro; (focus (first | (intro hg; (conv => whnf)) | (conv => whnf)); (repeat' first | (with_reducible exact ⟨rfl, rfl⟩) | ((with_reducible refine Own2.data ?_); (conv => whnf)) | (refine ⟨true, _, rfl, ?_⟩; (conv => whnf)) | (refine ⟨false, .nilp, rfl, ?_⟩; (conv => whnf)) | (refine ⟨_, _, by first | fail, ?_⟩; (conv => whnf)) | ((with_reducible apply Or.inl); (refine ⟨rfl, rfl, ?_⟩); (conv => whnf)) | ((with_reducible apply Or.inl); (with_reducible apply And.intro); (focus (first | assumption | (simp only [rng]; omega) | (simp [rng, IntKind.bits]; omega))); (conv => whnf)) | (refine ⟨by first | omega | (simp; omega) | (simp at hg ⊢; omega) | (refine ⟨rfl, ?_, ?_⟩ <;> first | (simp [maxLen]; done) | (simp [maxLen]; omega)) | (simp_all; first | done | fail), ?_⟩; (conv => whnf)) | ((with_reducible refine ACall.id ?_); (refine PCall.call (by first | fail) rfl ?_); (intro x hx; first | subst hx | (obtain ⟨l_, rfl, hl_⟩ := hx.out)); (conv => whnf)) | ((with_reducible apply Or.inr); (with_reducible exact ⟨rfl, rfl⟩)) | ((with_reducible apply Or.inr); (with_reducible apply And.intro) <;> (intro hb_; first | (cases hb_; done) | (conv => whnf))) | (intro hlen; (conv => whnf))); done); (conv => whnf))
      | (apply Exists.intro; apply Exists.intro; apply And.intro; (focus (conv => whnf); (repeat' first | (with_reducible exact ⟨rfl, rfl⟩) | ((with_reducible refine Own2.data ?_); (conv => whnf)) | (refine ⟨true, _, rfl, ?_⟩; (conv => whnf)) | (refine ⟨false, .nilp, rfl, ?_⟩; (conv => whnf)) | (refine ⟨_, _, by first | fail, ?_⟩; (conv => whnf)) | ((with_reducible apply Or.inl); (refine ⟨rfl, rfl, ?_⟩); (conv => whnf)) | ((with_reducible apply Or.inl); (with_reducible apply And.intro); (focus (first | assumption | (simp only [rng]; omega) | (simp [rng, IntKind.bits]; omega))); (conv => whnf)) | (refine ⟨by first | omega | (simp; omega) | (simp at hg ⊢; omega) | (refine ⟨rfl, ?_, ?_⟩ <;> first | (simp [maxLen]; done) | (simp [maxLen]; omega)) | (simp_all; first | done | fail), ?_⟩; (conv => whnf)) | ((with_reducible refine ACall.id ?_); (refine PCall.call (by first | fail) rfl ?_); (intro x hx; first | subst hx | (obtain ⟨l_, rfl, hl_⟩ := hx.out)); (conv => whnf)) | ((with_reducible apply Or.inr); (with_reducible exact ⟨rfl, rfl⟩)) | ((with_reducible apply Or.inr); (with_reducible apply And.intro) <;> (intro hb_; first | (cases hb_; done) | (conv => whnf))) | (intro hlen; (conv => whnf))); done); (conv => whnf))
      | ((with_reducible apply And.intro); (focus (first | omega | assumption | (exact True.intro) | (simp; omega) | (exact Nat.le_of_ble_eq_true rfl) | (exact ⟨rfl, Nat.le_of_ble_eq_true rfl⟩) | (exact ⟨Nat.le_of_ble_eq_true rfl, Nat.le_of_ble_eq_true rfl⟩) | (intro hg; first | (simp; first | done | fail) | (simp at hg ⊢; exact hg) | (simp at hg; exact hg) | exact hg))); (conv => whnf))
      | (with_reducible exact True.intro)
      | (exact Same.mk rfl)
      | ((with_reducible refine Two.mk ?_ ?_) <;> (conv => whnf))
    (try (any_goals (refine Side.mk ⟨rfl, ?_, ?_⟩ <;> first | (simp [maxLen]; done) | (simp [maxLen]; omega))))
    refine ⟨?_⟩
    refine AW.holeIn 5 7 rfl rfl rfl rfl (by simpa using hkl) ?_
    repeat' first
      | ((with_reducible refine AW.region Try.tabOk ?_); (conv => whnf))
      | ((with_reducible apply Or.inl); (with_reducible apply And.intro); (focus (first | assumption | (simp only [rng]; omega) | (simp [rng, IntKind.bits]; omega))); (conv => whnf))
    (try (any_goals (refine Side.mk ⟨rfl, ?_, ?_⟩ <;> first | (simp [maxLen]; done) | (simp [maxLen]; omega))))
    have hk2 : (PS.modify k fun q => (q.1, q.2 ++ [(m.getD i default).id])).map (·.1) = PS.map (·.1) := by
      apply List.ext_getElem?
      intro j
      simp only [List.getElem?_map, List.getElem?_modify]
      cases PS[j]? <;> simp <;> split <;> rfl
    have hk3 : (PS.modify k fun q => (q.1, q.2 ++ [(m.getD i default).id])).map (fun q => q.2.map D.str) = (PS.map fun q => q.2.map D.str).set k (lk ++ [D.str (m.getD i default).id]) := by
      apply List.ext_getElem?
      intro j
      simp only [List.getElem?_map, List.getElem?_modify, List.getElem?_set, List.length_map]
      by_cases hj : k = j
      · subst hj; simp [hkl, hlE]
      · simp [hj]
    exact .mk (i + 1, v) hit (by show m.length - (i + 1) < m.length - i; omega) ⟨rfl, rfl, rfl, ⟨ole_map (by rw [hPS2, hk2]), OLe.of (by rw [hPS2, hk3]; rfl), OLe.refl _, OLe.refl _, OLe.refl _, trivial⟩, ⟨AV.le_refl _, AV.le_refl _, AV.le_refl _, AV.le_refl _, AV.le_refl _, AV.le_refl _, AV.le_refl _, trivial⟩, rfl⟩
  · have hit : i < m.length := by assumption
    have hkd : (m[i]?.getD default).kind = 1 := by assumption
    have hus : (lastV (m[i]?.getD default).id p).isSome = true := by assumption
    rw [hused] at hus
    have hst := usedN_step (m := m) hit
    rw [if_pos (by rw [List.getD_eq_getElem?_getD, hkd, hus]; rfl)] at hst
    have hPS2 : partsF (topF p p.length) (usedN m (m.take (i + 1))) = PS ++ [(r, [(m.getD i default).id])] := by
      rw [hst, partsF_snoc, hPS, stepP, hev, hb]
    refine ⟨?_⟩
    refine AW.holeOut 5 PS.length rfl rfl (by simp) ?_
    have hlE : ((PS.map fun (q : Str × List Str) => q.2.map D.str) ++ [[]]).getD PS.length [] = [] := by simp [List.getD_eq_getElem?_getD]
    rw [hlE]
    repeat' first
      | (with_reducible refine AW.stop 27 ?_)
      | ((with_reducible refine AW.drawI Try.tabOk Try.mixed ?_ ?_); (focus rfl); (conv => whnf))
      | (refine ⟨_, ⟨rfl, rfl⟩, ?_⟩; (conv => whnf))
      | (apply Exists.intro; apply And.intro; (focus (first | (intro hg; (conv => whnf)) | (conv => whnf)); (repeat' first | (with_reducible exact ⟨rfl, rfl⟩) | ((with_reducible refine Own2.data ?_); (conv => whnf)) | (refine ⟨true, _, rfl, ?_⟩; (conv => whnf)) | (refine ⟨false, .nilp, rfl, ?_⟩; (conv => whnf)) | (refine ⟨_, _, by first | fail, ?_⟩; (conv => whnf)) | ((with_reducible apply Or.inl); (refine ⟨rfl, rfl, ?_⟩); (conv => whnf)) | ((with_reducible apply Or.inl); (with_reducible apply And.intro); (focus (first | assumption | (simp only [rng]; omega) | (simp [rng, IntKind.bits]; omega))); (conv => whnf)) | (refine ⟨by first | omega | (simp; omega) | (simp at hg ⊢; omega) | (refine ⟨rfl, ?_, ?_⟩ <;> first | (simp [maxLen]; done) | (simp [maxLen]; omega)) | (simp_all; first | done | fail), ?_⟩; (conv => whnf)) | ((with_reducible refine ACall.id ?_); (refine PCall.call (by first | fail) rfl ?_); (intro x hx; first | subst hx | (obtain ⟨l_, rfl, hl_⟩ := hx.out)); (conv => whnf)) | ((with_reducible apply Or.inr); (with_reducible exact ⟨rfl, rfl⟩)) | ((with_reducible apply Or.inr); (with_reducible apply And.intro) <;> (intro hb_; first | (cases hb_; done) | (conv => whnf))) | (intro hlen; (conv => whnf))); done); (conv => whnf))
      | (apply Exists.intro; apply Exists.intro; apply And.intro; (focus (conv => whnf); (repeat' first | (with_reducible exact ⟨rfl, rfl⟩) | ((with_reducible refine Own2.data ?_); (conv => whnf)) | (refine ⟨true, _, rfl, ?_⟩; (conv => whnf)) | (refine ⟨false, .nilp, rfl, ?_⟩; (conv => whnf)) | (refine ⟨_, _, by first | fail, ?_⟩; (conv => whnf)) | ((with_reducible apply Or.inl); (refine ⟨rfl, rfl, ?_⟩); (conv => whnf)) | ((with_reducible apply Or.inl); (with_reducible apply And.intro); (focus (first | assumption | (simp only [rng]; omega) | (simp [rng, IntKind.bits]; omega))); (conv => whnf)) | (refine ⟨by first | omega | (simp; omega) | (simp at hg ⊢; omega) | (refine ⟨rfl, ?_, ?_⟩ <;> first | (simp [maxLen]; done) | (simp [maxLen]; omega)) | (simp_all; first | done | fail), ?_⟩; (conv => whnf)) | ((with_reducible refine ACall.id ?_); (refine PCall.call (by first | fail) rfl ?_); (intro x hx; first | subst hx | (obtain ⟨l_, rfl, hl_⟩ := hx.out)); (conv => whnf)) | ((with_reducible apply Or.inr); (with_reducible exact ⟨rfl, rfl⟩)) | ((with_reducible apply Or.inr); (with_reducible apply And.intro) <;> (intro hb_; first | (cases hb_; done) | (conv => whnf))) | (intro hlen; (conv => whnf))); done); (conv => whnf))
      | (with_reducible exact True.intro)
      | (exact Same.mk rfl)
      | ((with_reducible refine Two.mk ?_ ?_) <;> (conv => whnf))
      | ((with_reducible refine And.intro (Side.out ?_) ?_); rotate_left; (conv => whnf); rotate_right)
    (try (any_goals (refine Side.mk ⟨rfl, ?_, ?_⟩ <;> first | (simp [maxLen]; done) | (simp [maxLen]; omega))))
    refine ⟨?_⟩
    refine AW.holeIn 5 8 rfl rfl rfl rfl (by simp) ?_
    repeat' first
      | ((with_reducible refine AW.region Try.tabOk ?_); (conv => whnf))
      | ((with_reducible apply Or.inl); (with_reducible apply And.intro); (focus (first | assumption | (simp only [rng]; omega) | (simp [rng, IntKind.bits]; omega))); (conv => whnf))
    (try (any_goals (refine Side.mk ⟨rfl, ?_, ?_⟩ <;> first | (simp [maxLen]; done) | (simp [maxLen]; omega))))
    have hk3 : (PS ++ [(r, [(m.getD i default).id])]).map (fun (q : Str × List Str) => q.2.map D.str) = ((PS.map fun (q : Str × List Str) => q.2.map D.str) ++ [[]]).set PS.length ([] ++ [D.str (m.getD i default).id]) := by
      rw [List.map_append, List.set_append_right _ _ (by simp)]; simp
    have q1 : addM (.str r) (.int .i64 ((PS.map fun (q : Str × List Str) => q.2.map D.str).length : Int)) (atE (PS.map (·.1))) = atE ((partsF (topF p p.length) (usedN m (m.take (i + 1)))).map (·.1)) := by
      rw [hPS2, List.map_append, List.length_map]
      show addM _ _ _ = atE (_ ++ [r])
      rw [atE_snoc, List.length_map]
    exact .mk (i + 1, v + 1) hit (by show m.length - (i + 1) < m.length - i; omega) ⟨rfl, rfl, rfl, ⟨ole_map q1, OLe.of (by rw [hPS2, hk3]; rfl), OLe.refl _, OLe.refl _, OLe.refl _, trivial⟩, ⟨AV.le_refl _, AV.le_refl _, AV.le_refl _, AV.le_refl _, AV.le_refl _, AV.le_refl _, AV.le_refl _, trivial⟩, rfl⟩
  · have hit : i < m.length := by assumption
    have hn : (lastV (m[i]?.getD default).id p).isSome = false := by rw [hb]; rfl
    rw [hused] at hn
    have hst := usedN_step (m := m) hit
    rw [if_neg (by rw [List.getD_eq_getElem?_getD, hn]; simp)] at hst
    rw [List.append_nil] at hst
    exact .mk (i + 1, v) hit (by show m.length - (i + 1) < m.length - i; omega) ⟨rfl, rfl, rfl, ⟨ole_map (by rw [hst, hPS]), OLe.of (by rw [hst, hPS]; rfl), OLe.refl _, OLe.refl _, OLe.refl _, trivial⟩, ⟨AV.le_refl _, AV.le_refl _, AV.le_refl _, AV.le_refl _, AV.le_refl _, AV.le_refl _, AV.le_refl _, trivial⟩, rfl⟩
  · have he : i = m.length := by omega
    subst he
    rw [List.take_length] at hPS
    have hp : partsN m = PS.map (·.2) := by
      rw [partsN, hm, if_pos rfl, ← hPS]
      exact (partsBy_congr _ fun x _ y _ => (hcon x y)).symm
    have e : lists 1 (PS.map fun q => q.2.map D.str) = (PS.map (·.2)).map fun l => .list 1 (l.map D.str) := by
      rw [lists, List.map_map, List.map_map]; rfl
    rw [e, hp]
    exact .d (DLe.mapL fun l => ⟨DLe.mapL', rfl, trivial⟩)
end Go.Proofs
end
section
/- Contracts: the examples of the chapter. -/
namespace Go.Proofs
open Go.Pm
set_option maxRecDepth 100000
set_option maxHeartbeats 4000000

def checkN (m : List Obj) : List Vio := if mapB m then ((m.filter (badR m)).map fun o => ⟨[], 5, [o.id]⟩) ++ ((m.filter (badT m)).map fun o => ⟨[], 6, [o.id]⟩) else []
def vioD (v : Vio) : D := .agg [.str v.view, .int .i64 v.kind, .list 1 (v.ids.map D.str)]
theorem c16d (m : List Obj) : PCall Try.prog 16 [.d (encMap m)] fun x => x = .d (encVios (checkN m)) := by
  refine PCall.res ((c16 m).conv fun x hx => ?_) rfl
  have hl : (if mapB m then routesS m m ++ turnsS m m else []) = (checkN m).map vioD := by
    unfold checkN
    cases mapB m with
    | false => rfl
    | true =>
      simp only [if_true, List.map_append, List.map_map]
      rfl
  refine ⟨.d (encVios (checkN m)), Res.refl _, rfl, fun n μ w v hv => ?_⟩
  rw [hl] at hx
  rcases hx.or with rfl | ⟨h0, rfl⟩
  · exact (DLe.mapL (sz := 3) (enc := vioD) (enc' := encVio) fun v => ⟨DLe.refl _, rfl, DLe.refl _, rfl, DLe.mapL', rfl, trivial⟩).av n μ w v hv
  · exact (DLe.nilsL' (sz := 3) (enc := encVio) (by simpa using h0)).av n μ w v hv
theorem check_ex : checkN exM = [⟨[], 5, [[114, 50]]⟩, ⟨[], 6, [[116, 50]]⟩] := by decide +kernel
theorem parts_ex : partsN exM = [[[97], [98], [99], [100]]] := by decide +kernel
theorem mapB_ex : mapB exM = true := by decide +kernel
theorem rootI_of {n r : Nat} (h1 : r * r ≤ n) (h2 : n < (r + 1) * (r + 1)) : rootI (n : Int) = (r : Int) := by
  unfold rootI
  rw [if_neg (by omega), Int.toNat_natCast]
  have a1 := Nat.sqrt_le n
  have a2 := Nat.lt_succ_sqrt n
  generalize Nat.sqrt n = q at *
  rcases Nat.lt_trichotomy r q with h | h | h
  · have : (r + 1) * (r + 1) ≤ q * q := Nat.mul_le_mul h h
    omega
  · rw [h]
  · have : q.succ * q.succ ≤ r * r := Nat.mul_le_mul h h
    omega
theorem len_ex {a b : Str} {n r : Nat} (hd : distI (nodePt exM a) (nodePt exM b) = (n : Int)) (h1 : r * r ≤ n) (h2 : n < (r + 1) * (r + 1)) (h0 : 1 ≤ r) : arcLen exM a b = (r : Int) := by
  unfold arcLen
  rw [hd, rootI_of h1 h2]; omega
theorem arcs_ex : arcsN exM = [⟨[97], [98], [118], 5⟩, ⟨[98], [97], [118], 5⟩, ⟨[99], [98], [119], 7⟩, ⟨[98], [99], [119], 7⟩, ⟨[99], [100], [120], 9⟩, ⟨[100], [99], [120], 9⟩] := by
  have raw : arcsRaw exM exM = [⟨[97], [98], [118], arcLen exM [97] [98]⟩, ⟨[98], [97], [118], arcLen exM [97] [98]⟩, ⟨[99], [98], [119], arcLen exM [99] [98]⟩, ⟨[98], [99], [119], arcLen exM [99] [98]⟩, ⟨[99], [100], [120], arcLen exM [99] [100]⟩, ⟨[100], [99], [120], arcLen exM [99] [100]⟩] := by rfl
  rw [arcsN, mapB_ex, if_pos rfl, raw, len_ex (n := 25) (r := 5) (by decide +kernel) (by decide) (by decide) (by decide), len_ex (n := 61) (r := 7) (by decide +kernel) (by decide) (by decide) (by decide), len_ex (n := 81) (r := 9) (by decide +kernel) (by decide) (by decide) (by decide)]
  decide +kernel
theorem c44l1 (L : List Str) (a : Str) : PCall Try.prog 44 [.d (encStrs L), .d (.list 1 [.str a])] fun x => x = .d (.bool (decide (L = [a]))) :=
  (c44 L [a]).le ⟨AV.le_refl _, AV.leL (by rfl), trivial⟩
theorem c44l4 (L : List Str) (a b c d : Str) : PCall Try.prog 44 [.d (encStrs L), .d (.list 1 [.str a, .str b, .str c, .str d])] fun x => x = .d (.bool (decide (L = [a, b, c, d]))) :=
  (c44 L [a, b, c, d]).le ⟨AV.le_refl _, AV.leL (by rfl), trivial⟩
theorem c13 : PCall Try.prog 13 [] fun x => x = .d (.bool true) := by
  have h16 := c16d exM
  have h19 := c19 exM
  have h22 := c22 exM
  have h24 := fun a v b => c24 exM a v b
  rw [check_ex] at h16
  rw [arcs_ex] at h19
  rw [parts_ex] at h22
  refine PCall.intro Try.tabOk Try.f13 _ Try.func13 rfl (by decide) rfl fun z => ?_
  repeat' first
    | (with_reducible refine AW.seq ?_)
    | ((with_reducible refine AW.region Try.tabOk ?_); (conv => whnf))
    | ((with_reducible refine AW.ret ?_); (conv => whnf))
    | ((with_reducible refine AW.skip ?_); (conv => whnf))
    | ((with_reducible refine AW.cond ?_); (conv => whnf))
    | ((with_reducible refine Own2.data ?_); (conv => whnf))
    | ((with_reducible refine ACall.id ?_); (refine PCall.call (by first | exact c43 | exact h16 | exact h19 | exact h22 | exact h24 _ _ _ | exact c44l1 _ _ | exact c44l4 _ _ _ _ _) rfl ?_); (intro x hx; first | subst hx | (obtain ⟨l_, rfl, hl_⟩ := hx.out)); (conv => whnf))
    | ((with_reducible apply Or.inl); apply Exists.intro; apply And.intro; (focus (intro hg; (conv => whnf); (repeat' first | (with_reducible exact ⟨rfl, rfl⟩) | ((with_reducible refine Own2.data ?_); (conv => whnf)) | (refine ⟨true, _, rfl, ?_⟩; (conv => whnf)) | (refine ⟨false, .nilp, rfl, ?_⟩; (conv => whnf)) | (refine ⟨_, _, by first | exact c43 | exact h16 | exact h19 | exact h22 | exact h24 _ _ _ | exact c44l1 _ _ | exact c44l4 _ _ _ _ _, ?_⟩; (conv => whnf)) | ((with_reducible apply Or.inl); (refine ⟨rfl, rfl, ?_⟩); (conv => whnf)) | ((with_reducible apply Or.inl); (with_reducible apply And.intro); (focus (first | assumption | (simp only [rng]; omega) | (simp [rng, IntKind.bits]; omega))); (conv => whnf)) | (refine ⟨by first | omega | (simp; omega) | (simp at hg ⊢; omega) | (refine ⟨rfl, ?_, ?_⟩ <;> first | (simp [maxLen]; done) | (simp [maxLen]; omega)) | (exact hg) | (intro hq_; rw [hg]; exact hq_) | (simp_all; first | done | fail), ?_⟩; (conv => whnf)) | ((with_reducible refine ACall.id ?_); (refine PCall.call (by first | exact c43 | exact h16 | exact h19 | exact h22 | exact h24 _ _ _ | exact c44l1 _ _ | exact c44l4 _ _ _ _ _) rfl ?_); (intro x hx; first | subst hx | (obtain ⟨l_, rfl, hl_⟩ := hx.out)); (conv => whnf)) | ((with_reducible apply Or.inr); (with_reducible exact ⟨rfl, rfl⟩)) | ((with_reducible apply Or.inr); (with_reducible apply And.intro) <;> (intro hb_; first | (cases hb_; done) | (conv => whnf))) | (intro hlen; (conv => whnf))); done)); (conv => whnf))
    | ((with_reducible apply Or.inr); (with_reducible apply And.intro) <;> (intro hb; (try simp at hb); (try (exfalso; first | omega | (simp_all; first | done | fail))); (try (conv => whnf))))
    | ((with_reducible apply And.intro); (focus (first | omega | assumption | (exact True.intro) | (simp; omega) | (exact Nat.le_of_ble_eq_true rfl) | (exact ⟨rfl, Nat.le_of_ble_eq_true rfl⟩) | (exact ⟨Nat.le_of_ble_eq_true rfl, Nat.le_of_ble_eq_true rfl⟩) | (intro hg; first | (simp; first | done | fail) | (simp at hg ⊢; exact hg) | (simp at hg; exact hg) | exact hg))); (conv => whnf))
    | ((with_reducible apply And.intro) <;> (intro hb; (try simp at hb); (try (exfalso; first | omega | (simp_all; first | done | fail))); (try (conv => whnf))))
    | (intro hlen; (conv => whnf))
    | ((with_reducible refine And.intro (Side.out ?_) ?_); rotate_left; (conv => whnf); rotate_right)
  (try (any_goals (refine Side.mk ⟨rfl, ?_, ?_⟩ <;> first | (simp [maxLen]; done) | (simp [maxLen]; omega))))
  all_goals first
    | exact ⟨by decide +kernel⟩
    | exact congrArg (fun b => AV.d (.bool b)) (by decide +kernel)
end Go.Proofs
end
section
/- Contracts: the reference's valid objects. -/
namespace Go.Proofs
open Go.Pm
set_option maxRecDepth 100000
set_option maxHeartbeats 4000000

theorem c115 (x y : Int) : PCall Try.prog 115 [.d (.agg [.int .i64 x, .int .i64 y])] fun v => v = .d (.bool (onGrid x y)) := by
  refine PCall.intro Try.tabOk Try.f115 _ Try.func115 rfl (by decide) rfl fun z => ?_
  repeat' first
    | (with_reducible refine AW.seq ?_)
    | ((with_reducible refine AW.region Try.tabOk ?_); (conv => whnf))
    | ((with_reducible refine AW.ret ?_); (conv => whnf))
    | ((with_reducible apply Or.inl); apply Exists.intro; apply And.intro; (focus (intro hg; (conv => whnf); (repeat' first | (with_reducible exact ⟨rfl, rfl⟩) | ((with_reducible refine Own2.data ?_); (conv => whnf)) | (refine ⟨true, _, rfl, ?_⟩; (conv => whnf)) | (refine ⟨false, .nilp, rfl, ?_⟩; (conv => whnf)) | (refine ⟨_, _, by first | fail, ?_⟩; (conv => whnf)) | ((with_reducible apply Or.inl); (refine ⟨rfl, rfl, ?_⟩); (conv => whnf)) | ((with_reducible apply Or.inl); (with_reducible apply And.intro); (focus (first | assumption | (simp only [rng]; omega) | (simp [rng, IntKind.bits]; omega))); (conv => whnf)) | (refine ⟨by first | omega | (simp; omega) | (simp at hg ⊢; omega) | (simp_all; first | done | fail), ?_⟩; (conv => whnf)) | ((with_reducible refine ACall.id ?_); (refine PCall.call (by first | fail) rfl ?_); (intro x hx; first | subst hx | (obtain ⟨l_, rfl, hl_⟩ := hx.out)); (conv => whnf)) | ((with_reducible apply Or.inr); (with_reducible exact ⟨rfl, rfl⟩)) | ((with_reducible apply Or.inr); (with_reducible apply And.intro) <;> (intro hb_; first | (cases hb_; done) | (conv => whnf))) | (intro hlen; (conv => whnf))); done)); (conv => whnf))
    | ((with_reducible apply And.intro); (focus (first | omega | assumption | (exact True.intro) | (simp; omega) | (exact Nat.le_of_ble_eq_true rfl) | (exact ⟨rfl, Nat.le_of_ble_eq_true rfl⟩) | (exact ⟨Nat.le_of_ble_eq_true rfl, Nat.le_of_ble_eq_true rfl⟩) | (intro hg; first | (simp; first | done | fail) | (simp at hg ⊢; exact hg) | (simp at hg; exact hg) | exact hg))); (conv => whnf))
  (try (any_goals (refine Side.mk ⟨rfl, ?_, ?_⟩ <;> (simp [maxLen]; omega))))
  simp only [bif_and, onGrid, ge_iff_le]
theorem c117 (n : Int) : PCall Try.prog 117 [.d (.int .i64 n)] fun v => v = .d (.str (kindWord n)) := by
  refine PCall.intro Try.tabOk Try.f117 _ Try.func117 rfl (by decide) rfl fun z => ?_
  repeat' first
    | (with_reducible refine AW.seq ?_)
    | ((with_reducible refine AW.region Try.tabOk ?_); (conv => whnf))
    | ((with_reducible refine AW.ret ?_); (conv => whnf))
    | ((with_reducible refine AW.skip ?_); (conv => whnf))
    | ((with_reducible refine AW.cond ?_); (conv => whnf))
    | ((with_reducible refine Own2.data ?_); (conv => whnf))
    | ((with_reducible apply Or.inl); apply Exists.intro; apply And.intro; (focus (intro hg; (conv => whnf); (repeat' first | (with_reducible exact ⟨rfl, rfl⟩) | ((with_reducible refine Own2.data ?_); (conv => whnf)) | (refine ⟨true, _, rfl, ?_⟩; (conv => whnf)) | (refine ⟨false, .nilp, rfl, ?_⟩; (conv => whnf)) | (refine ⟨_, _, by first | fail, ?_⟩; (conv => whnf)) | ((with_reducible apply Or.inl); (refine ⟨rfl, rfl, ?_⟩); (conv => whnf)) | ((with_reducible apply Or.inl); (with_reducible apply And.intro); (focus (first | assumption | (simp only [rng]; omega) | (simp [rng, IntKind.bits]; omega))); (conv => whnf)) | (refine ⟨by first | omega | (simp; omega) | (simp at hg ⊢; omega) | (simp_all; first | done | fail), ?_⟩; (conv => whnf)) | ((with_reducible refine ACall.id ?_); (refine PCall.call (by first | fail) rfl ?_); (intro x hx; first | subst hx | (obtain ⟨l_, rfl, hl_⟩ := hx.out)); (conv => whnf)) | ((with_reducible apply Or.inr); (with_reducible exact ⟨rfl, rfl⟩)) | ((with_reducible apply Or.inr); (with_reducible apply And.intro) <;> (intro hb_; first | (cases hb_; done) | (conv => whnf))) | (intro hlen; (conv => whnf))); done)); (conv => whnf))
    | ((with_reducible apply And.intro); (focus (first | omega | assumption | (exact True.intro) | (simp; omega) | (exact Nat.le_of_ble_eq_true rfl) | (exact ⟨rfl, Nat.le_of_ble_eq_true rfl⟩) | (exact ⟨Nat.le_of_ble_eq_true rfl, Nat.le_of_ble_eq_true rfl⟩) | (intro hg; first | (simp; first | done | fail) | (simp at hg ⊢; exact hg) | (simp at hg; exact hg) | exact hg))); (conv => whnf))
    | ((with_reducible apply And.intro) <;> (intro hb; (try simp at hb); (try (exfalso; first | omega | (simp_all; first | done | fail))); (try (conv => whnf))))
  (try (any_goals (refine Side.mk ⟨rfl, ?_, ?_⟩ <;> (simp [maxLen]; omega))))
  · have : kindWord n = [] := by unfold kindWord; simp only [show n ≠ 1 by omega, show n ≠ 2 by omega, show n ≠ 3 by omega, show n ≠ 4 by omega, show n ≠ 5 by omega, if_false]
    rw [this]
  · have : n = 1 ∨ n = 2 ∨ n = 3 ∨ n = 4 ∨ n = 5 := by omega
    rcases this with rfl | rfl | rfl | rfl | rfl
    all_goals (
      (conv => whnf)
      repeat' first
        | ((with_reducible refine AW.ret ?_); (conv => whnf))
      (try (any_goals (refine Side.mk ⟨rfl, ?_, ?_⟩ <;> (simp [maxLen]; omega))))
      rfl)
theorem upto_lt1 {p : Nat → Prop} {i : Nat} (hw : ∀ k, k < i → p k) (hi : p i) : ∀ k, k < i + 1 → p k := fun k hk => by
  by_cases e : k = i
  · subst e; exact hi
  · exact hw k (by omega)
theorem c118 (L : List (Str × Str)) : PCall Try.prog 118 [.d (encTags L)] fun v => v = .d (.bool (tagsB L)) := by
  refine PCall.intro Try.tabOk Try.f118 _ Try.func118 rfl (by decide) rfl fun z => ?_
  repeat' first
    | (with_reducible refine AW.seq ?_)
    | ((with_reducible refine AW.region Try.tabOk ?_); (conv => whnf))
    | ((with_reducible refine AW.ret ?_); (conv => whnf))
    | ((with_reducible refine AW.block ?_))
    | ((with_reducible refine AW.skip ?_); (conv => whnf))
    | ((with_reducible refine AW.cond ?_); (conv => whnf))
    | ((with_reducible apply And.intro) <;> (intro hb; (try simp at hb); (try (exfalso; first | omega | (simp_all; first | done | fail))); (try (conv => whnf))))
    | (intro hlen; (conv => whnf))
  (try (any_goals (refine Side.mk ⟨rfl, ?_, ?_⟩ <;> (simp [maxLen]; omega))))
  · rw [show tagsB L = false by rw [tagsB, decide_eq_false (p := L.length ≤ 60) (by omega), Bool.and_false]]
  refine AW.loopS (X := Nat) [0] [] (fun i => [(3, .d (.int .i64 (i : Int)))]) (fun i => []) (fun _ => 0)
    (fun i => i ≤ L.length ∧ (∀ k, k < i → tagB (L.getD k dT) = true) ∧ ∀ k, k + 1 < i → ltS (L.getD k dT).1 (L.getD (k + 1) dT).1 = true) (fun i => L.length - i) 0 ⟨Nat.zero_le _, fun k h => absurd h (Nat.not_lt_zero k), fun k h => absurd h (Nat.not_lt_zero _)⟩ (fun _ _ => rfl) (by refine ⟨rfl, rfl, rfl, ?_, ?_⟩ <;> repeat' (first | exact trivial | exact OLe.refl _ | exact AV.le_refl _ | apply And.intro)) ?_
  intro i ⟨hi, hw, ha⟩
  repeat' first
    | (with_reducible refine AW.seq ?_)
    | ((with_reducible refine AW.region Try.tabOk ?_); (conv => whnf))
    | ((with_reducible refine AW.draw Try.tabOk Try.mixed ?_ ?_); (focus rfl); (conv => whnf))
    | ((with_reducible refine AW.ret ?_); (conv => whnf))
    | ((with_reducible refine AW.block ?_))
    | ((with_reducible refine AW.exit ?_); (conv => whnf))
    | ((with_reducible refine AW.skip ?_); (conv => whnf))
    | ((with_reducible refine AW.cond ?_); (conv => whnf))
    | (refine ⟨_, ⟨rfl, rfl⟩, ?_⟩; (conv => whnf))
    | (apply Exists.intro; apply And.intro; (focus (first | (intro hg; (conv => whnf)) | (conv => whnf)); (repeat' first | (with_reducible exact ⟨rfl, rfl⟩) | ((with_reducible refine Own2.data ?_); (conv => whnf)) | (refine ⟨true, _, rfl, ?_⟩; (conv => whnf)) | (refine ⟨false, .nilp, rfl, ?_⟩; (conv => whnf)) | (refine ⟨_, _, by first | exact c116 _, ?_⟩; (conv => whnf)) | ((with_reducible apply Or.inl); (refine ⟨rfl, rfl, ?_⟩); (conv => whnf)) | ((with_reducible apply Or.inl); (with_reducible apply And.intro); (focus (first | assumption | (simp only [rng]; omega) | (simp [rng, IntKind.bits]; omega))); (conv => whnf)) | (refine ⟨by first | omega | (simp; omega) | (simp at hg ⊢; omega) | (simp_all; first | done | fail), ?_⟩; (conv => whnf)) | ((with_reducible refine ACall.id ?_); (refine PCall.call (by first | exact c116 _) rfl ?_); (intro x hx; first | subst hx | (obtain ⟨l_, rfl, hl_⟩ := hx.out)); (conv => whnf)) | ((with_reducible apply Or.inr); (with_reducible exact ⟨rfl, rfl⟩)) | ((with_reducible apply Or.inr); (with_reducible apply And.intro) <;> (intro hb_; first | (cases hb_; done) | (conv => whnf))) | (intro hlen; (conv => whnf))); done); (conv => whnf))
    | ((with_reducible apply Or.inl); (with_reducible apply And.intro); (focus (first | assumption | (simp only [rng]; omega) | (simp [rng, IntKind.bits]; omega))); (conv => whnf))
    | ((with_reducible apply And.intro) <;> (intro hb; (try simp at hb); (try (exfalso; first | omega | (simp_all; first | done | fail))); (try (conv => whnf))))
    | (intro hlen; (conv => whnf))
  (try (any_goals (refine Side.mk ⟨rfl, ?_, ?_⟩ <;> (simp [maxLen]; omega))))
  · have hit : i < L.length := by assumption
    have : tagsB L = false := by
      rw [Bool.eq_false_iff]
      intro ht
      simp only [tagsB, Bool.and_eq_true, decide_eq_true_eq] at ht
      obtain ⟨⟨h1, h2⟩, h3⟩ := ht
      have h1 := (List.all_eq_true.1 h1) (L.getD i dT) (by rw [List.getD_eq_getElem?_getD, List.getElem?_eq_getElem hit]; simp)
      simp only [tagB, Bool.and_eq_true, decide_eq_true_eq, List.getD_eq_getElem?_getD] at h1
      have e0 : (L[i]?.getD dT) = (L[i]?.getD ([], [])) := rfl
      rw [e0] at h1
      rcases hb with ((hb | hb) | hb) | hb
      · rw [hb] at h1; exact absurd h1.1.1 (by simp)
      · omega
      · omega
      · obtain ⟨h0, hb⟩ := hb
        have := h2 (i - 1) (by simp; omega)
        rw [show i - 1 + 1 = i by omega] at this
        have e1 : ∀ k, (L.map (·.1)).getD k [] = (L.getD k dT).1 := fun k => map_getD (fun p : Str × Str => p.1) L k dT
        rw [e1, e1, List.getD_eq_getElem?_getD, List.getD_eq_getElem?_getD] at this
        have h2 : ltS (L[i - 1]?.getD ([], [])).1 (L[i]?.getD ([], [])).1 = false := hb
        rw [show ltS (L[i - 1]?.getD ([], [])).1 (L[i]?.getD ([], [])).1 = true from this] at h2
        cases h2
    rw [this]
  · have hit : i < L.length := by assumption
    refine .mk (i + 1) ⟨hit, upto_lt1 hw ?_, fun k hk => ?_⟩ (by show L.length - (i + 1) < L.length - i; omega) (by refine ⟨rfl, rfl, rfl, ?_, ?_, rfl⟩ <;> repeat' (first | exact trivial | exact OLe.refl _ | exact AV.le_refl _ | apply And.intro))
    · simp only [tagB, Bool.and_eq_true, decide_eq_true_eq, List.getD_eq_getElem?_getD]
      have e0 : (L[i]?.getD dT) = (L[i]?.getD ([], [])) := rfl
      rw [e0]
      exact ⟨⟨hb.1.1.1, by omega⟩, by omega⟩
    · by_cases e : k + 1 < i
      · exact ha k e
      · obtain rfl : i = k + 1 := by omega
        have := hb.2 (by omega)
        rw [List.getD_eq_getElem?_getD, List.getD_eq_getElem?_getD]
        exact this
  · have : tagsB L = true := by
      simp only [tagsB, Bool.and_eq_true, decide_eq_true_eq]
      refine ⟨⟨?_, fun k hk => ?_⟩, by omega⟩
      · rw [List.all_eq_true]
        intro p hp
        obtain ⟨k, hk, rfl⟩ := List.mem_iff_getElem.1 hp
        have := hw k (by omega)
        rwa [List.getD_eq_getElem?_getD, List.getElem?_eq_getElem hk] at this
      · have e1 : ∀ k, (L.map (·.1)).getD k [] = (L.getD k dT).1 := fun k => map_getD (fun p : Str × Str => p.1) L k dT
        rw [e1, e1]
        exact ha k (by simp at hk; omega)
    rw [this]
theorem str_eq2 (a b : Str) : dEq (D.str a) (D.str b) = decide (a = b) := by
  show (a == b) = _
  rw [Bool.eq_iff_iff]; simp
def seenS (l : List Str) : Ents := histE D.str (l.map fun a => (a, D.bool true))
theorem seenS_find (l : List Str) (a : Str) : findE (.str a) (seenS l).1 = cond (decide (a ∈ l)) (some (.bool true)) none := by
  rw [seenS, histE_find str_eq2]
  induction l using snoc_ind with
  | nil => rfl
  | snoc l b ih =>
    rw [List.map_append, List.map_cons, List.map_nil, lastV_snoc, ih]
    by_cases h : b = a
    · simp [h]
    · simp [h, Ne.symm h]
theorem seenS_snoc (l : List Str) (a : Str) : seenS (l ++ [a]) = addM (.str a) (.bool true) (seenS l) := by
  rw [seenS, List.map_append]; exact histE_snoc _ _ _ _
theorem ole_map1 {sh : KSh} {e e' : Ents} (h : e = e') : OLe (.map sh e.1 e.2) (.map sh e'.1 e'.2) := OLe.of (by rw [h])
theorem take_succ1 (L : List Str) (i : Nat) (h : i < L.length) : L.take (i + 1) = L.take i ++ [L.getD i []] := by
  rw [List.take_add_one, List.getElem?_eq_getElem h, List.getD_eq_getElem?_getD, List.getElem?_eq_getElem h]; rfl
theorem c119 (o : Obj) : PCall Try.prog 119 [.d (encObj o)] fun v => v = .d (.bool (countB o.kind o.refs.length && refsB o.kind o.refs)) := by
  refine PCall.intro Try.tabOk Try.f119 _ Try.func119 rfl (by decide) rfl fun z => ?_
  repeat' first
    | (with_reducible refine AW.seq ?_)
    | ((with_reducible refine AW.region Try.tabOk ?_); (conv => whnf))
    | ((with_reducible refine AW.ret ?_); (conv => whnf))
    | ((with_reducible refine AW.block ?_))
    | ((with_reducible refine AW.skip ?_); (conv => whnf))
    | ((with_reducible refine AW.cond ?_); (conv => whnf))
    | ((with_reducible apply And.intro); (focus (first | omega | assumption | (exact True.intro) | (simp; omega) | (exact Nat.le_of_ble_eq_true rfl) | (exact ⟨rfl, Nat.le_of_ble_eq_true rfl⟩) | (exact ⟨Nat.le_of_ble_eq_true rfl, Nat.le_of_ble_eq_true rfl⟩) | (intro hg; first | (simp; first | done | fail) | (simp at hg ⊢; exact hg) | (simp at hg; exact hg) | exact hg))); (conv => whnf))
    | ((with_reducible apply And.intro) <;> (intro hb; (try simp at hb); (try (exfalso; first | omega | (simp_all; first | done | fail))); (try (conv => whnf))))
    | (intro hlen; (conv => whnf))
  (try (any_goals (refine Side.mk ⟨rfl, ?_, ?_⟩ <;> (simp [maxLen]; omega))))
  · rw [show countB o.kind o.refs.length = false by rw [countB, decide_eq_false (p := o.refs.length ≤ 2000) (by omega), Bool.and_false]]; rfl
  refine AW.loopS (X := Nat) [4, 3, 1] [0] (fun i => [(5, .d (.int .i64 (i : Int)))]) (fun i => [(1, .map (.one .str) (seenS (o.refs.take i)).1 (seenS (o.refs.take i)).2)]) (fun _ => 2)
    (fun i => i ≤ o.refs.length ∧ ∀ k, k < i → wrongAt o.kind o.refs k = false) (fun i => o.refs.length - i) 0 ⟨Nat.zero_le _, fun k h => absurd h (Nat.not_lt_zero k)⟩ (fun _ _ => rfl) (by refine ⟨rfl, rfl, rfl, ?_, ?_⟩ <;> repeat' (first | exact trivial | exact OLe.refl _ | exact AV.le_refl _ | apply And.intro)) ?_
  intro i ⟨hi, hw⟩
  repeat' first
    | (with_reducible refine AW.seq ?_)
    | ((with_reducible refine AW.region Try.tabOk ?_); (conv => whnf))
    | ((with_reducible refine AW.draw Try.tabOk Try.mixed ?_ ?_); (focus rfl); (conv => whnf))
    | ((with_reducible refine AW.ret ?_); (conv => whnf))
    | ((with_reducible refine AW.block ?_))
    | ((with_reducible refine AW.exit ?_); (conv => whnf))
    | ((with_reducible refine AW.skip ?_); (conv => whnf))
    | ((with_reducible refine AW.cond ?_); (conv => whnf))
    | (refine ⟨_, ⟨rfl, rfl⟩, ?_⟩; (conv => whnf))
    | (apply Exists.intro; apply And.intro; (focus (first | (intro hg; (conv => whnf)) | (conv => whnf)); (repeat' first | (with_reducible exact ⟨rfl, rfl⟩) | ((with_reducible refine Own2.data ?_); (conv => whnf)) | (refine ⟨true, _, rfl, ?_⟩; (conv => whnf)) | (refine ⟨false, .nilp, rfl, ?_⟩; (conv => whnf)) | (refine ⟨_, _, by first | exact c116 _ | exact seenS_find _ _, ?_⟩; (conv => whnf)) | ((with_reducible apply Or.inl); (refine ⟨rfl, rfl, ?_⟩); (conv => whnf)) | ((with_reducible apply Or.inl); (with_reducible apply And.intro); (focus (first | assumption | (simp only [rng]; omega) | (simp [rng, IntKind.bits]; omega))); (conv => whnf)) | (refine ⟨by first | omega | (simp; omega) | (simp at hg ⊢; omega) | (simp_all; first | done | fail), ?_⟩; (conv => whnf)) | ((with_reducible refine ACall.id ?_); (refine PCall.call (by first | exact c116 _ | exact seenS_find _ _) rfl ?_); (intro x hx; first | subst hx | (obtain ⟨l_, rfl, hl_⟩ := hx.out)); (conv => whnf)) | ((with_reducible apply Or.inr); (with_reducible exact ⟨rfl, rfl⟩)) | ((with_reducible apply Or.inr); (with_reducible apply And.intro) <;> (intro hb_; first | (cases hb_; done) | (conv => whnf))) | (intro hlen; (conv => whnf))); done); (conv => whnf))
    | ((with_reducible apply Or.inl); (with_reducible apply And.intro); (focus (first | assumption | (simp only [rng]; omega) | (simp [rng, IntKind.bits]; omega))); (conv => whnf))
    | ((with_reducible apply And.intro); (focus (first | omega | assumption | (exact True.intro) | (simp; omega) | (exact Nat.le_of_ble_eq_true rfl) | (exact ⟨rfl, Nat.le_of_ble_eq_true rfl⟩) | (exact ⟨Nat.le_of_ble_eq_true rfl, Nat.le_of_ble_eq_true rfl⟩) | (intro hg; first | (simp; first | done | fail) | (simp at hg ⊢; exact hg) | (simp at hg; exact hg) | exact hg))); (conv => whnf))
    | ((with_reducible apply And.intro) <;> (intro hb; (try simp at hb); (try (exfalso; first | omega | (simp_all; first | done | fail))); (try (conv => whnf))))
  (try (any_goals (refine Side.mk ⟨rfl, ?_, ?_⟩ <;> (simp [maxLen]; omega))))
  · have hit : i < o.refs.length := by assumption
    have : refsB o.kind o.refs = false := by
      rw [Bool.eq_false_iff]
      intro h
      have := refsB_iff.1 h i hit
      simp only [wrongAt, Bool.or_eq_false_iff, decide_eq_false_iff_not, Bool.not_eq_false', List.getD_eq_getElem?_getD] at this
      obtain ⟨⟨h1, h2⟩, h3⟩ := this
      rcases hb with (hb | hb) | hb
      · rw [hb] at h1; cases h1
      · exact h2 ⟨hb.1.1, hb.1.2, hb.2⟩
      · exact h3 hb
    rw [this, Bool.and_false]
  · have hit : i < o.refs.length := by assumption
    have q1 : addM (.str (o.refs.getD i [])) (.bool true) (seenS (o.refs.take i)) = seenS (o.refs.take (i + 1)) := by rw [take_succ1 o.refs i hit, seenS_snoc]
    refine .mk (i + 1) ⟨hit, upto_lt1 hw ?_⟩ (by show o.refs.length - (i + 1) < o.refs.length - i; omega) ⟨rfl, rfl, rfl, ⟨ole_map1 q1, OLe.refl _, trivial⟩, ⟨AV.le_refl _, AV.le_refl _, AV.le_refl _, AV.le_refl _, trivial⟩, rfl⟩
    simp only [wrongAt, Bool.or_eq_false_iff, decide_eq_false_iff_not, Bool.not_eq_false', List.getD_eq_getElem?_getD]
    exact ⟨⟨hb.1.1, fun h => hb.1.2 h.1 h.2.1 h.2.2⟩, fun h => hb.2 h.1 h.2⟩
  all_goals have hR : refsB o.kind o.refs = true := refsB_iff.2 fun k hk => hw k (by omega)
  all_goals rw [hR, Bool.and_true, countB, decide_eq_true (by omega : o.refs.length ≤ 2000), Bool.and_true]
  · rw [if_pos hb]; congr 2; rw [Bool.eq_iff_iff, beq_iff_eq, decide_eq_true_eq]; omega
  · rw [if_neg (by omega), if_pos hb]; congr 2; rw [decide_eq_decide]; omega
  · rw [if_neg (by omega), if_neg (by omega), if_pos hb]; congr 2; rw [decide_eq_decide]; omega
  · rw [if_neg (by omega), if_neg (by omega), if_neg (by omega), if_pos hb]; congr 2; rw [decide_eq_decide]; omega
  · rw [if_neg (by assumption), if_neg (by assumption), if_neg (by assumption), if_neg (by assumption)]
    congr 2
    rw [Bool.eq_iff_iff, beq_iff_eq, decide_eq_true_eq]; omega
theorem c106 (o : Obj) : PCall Try.prog 106 [.d (encObj o)] fun v => v = .d (.bool (objB o)) := by
  refine PCall.intro Try.tabOk Try.f106 _ Try.func106 rfl (by decide) rfl fun z => ?_
  repeat' first
    | (with_reducible refine AW.seq ?_)
    | ((with_reducible refine AW.region Try.tabOk ?_); (conv => whnf))
    | ((with_reducible refine AW.ret ?_); (conv => whnf))
    | ((with_reducible refine AW.skip ?_); (conv => whnf))
    | ((with_reducible refine AW.cond ?_); (conv => whnf))
    | ((with_reducible refine ACall.id ?_); (refine PCall.call (by first | exact c115 _ _ | exact c116 _ | exact c117 _ | exact c118 _ | exact c119 _) rfl ?_); (intro x hx; first | subst hx | (obtain ⟨l_, rfl, hl_⟩ := hx.out)); (conv => whnf))
    | ((with_reducible apply Or.inl); apply Exists.intro; apply And.intro; (focus (intro hg; (conv => whnf); (repeat' first | (with_reducible exact ⟨rfl, rfl⟩) | ((with_reducible refine Own2.data ?_); (conv => whnf)) | (refine ⟨true, _, rfl, ?_⟩; (conv => whnf)) | (refine ⟨false, .nilp, rfl, ?_⟩; (conv => whnf)) | (refine ⟨_, _, by first | exact c115 _ _ | exact c116 _ | exact c117 _ | exact c118 _ | exact c119 _, ?_⟩; (conv => whnf)) | ((with_reducible apply Or.inl); (refine ⟨rfl, rfl, ?_⟩); (conv => whnf)) | ((with_reducible apply Or.inl); (with_reducible apply And.intro); (focus (first | assumption | (simp only [rng]; omega) | (simp [rng, IntKind.bits]; omega))); (conv => whnf)) | (refine ⟨by first | omega | (simp; omega) | (simp at hg ⊢; omega) | (simp_all; first | done | fail), ?_⟩; (conv => whnf)) | ((with_reducible refine ACall.id ?_); (refine PCall.call (by first | exact c115 _ _ | exact c116 _ | exact c117 _ | exact c118 _ | exact c119 _) rfl ?_); (intro x hx; first | subst hx | (obtain ⟨l_, rfl, hl_⟩ := hx.out)); (conv => whnf)) | ((with_reducible apply Or.inr); (with_reducible exact ⟨rfl, rfl⟩)) | ((with_reducible apply Or.inr); (with_reducible apply And.intro) <;> (intro hb_; first | (cases hb_; done) | (conv => whnf))) | (intro hlen; (conv => whnf))); done)); (conv => whnf))
    | ((with_reducible apply And.intro); (focus (first | omega | assumption | (exact True.intro) | (simp; omega) | (exact Nat.le_of_ble_eq_true rfl) | (exact ⟨rfl, Nat.le_of_ble_eq_true rfl⟩) | (exact ⟨Nat.le_of_ble_eq_true rfl, Nat.le_of_ble_eq_true rfl⟩) | (intro hg; first | (simp; first | done | fail) | (simp at hg ⊢; exact hg) | (simp at hg; exact hg) | exact hg))); (conv => whnf))
    | ((with_reducible apply And.intro) <;> (intro hb; (try simp at hb); (try (exfalso; first | omega | (simp_all; first | done | fail))); (try (conv => whnf))))
  (try (any_goals (refine Side.mk ⟨rfl, ?_, ?_⟩ <;> (simp [maxLen]; omega))))
  · refine congrArg (fun b => AV.d (.bool b)) ?_
    rw [objB, atB, if_neg hb]
    have hw : (!(kindWord o.kind == ([] : Str))) = decide (1 ≤ o.kind ∧ o.kind ≤ 5) := by
      have := kindWord_nil o.kind
      by_cases h : kindWord o.kind = []
      · rw [decide_eq_false (this.1 h), h]; rfl
      · rw [decide_eq_true (by by_cases h2 : 1 ≤ o.kind ∧ o.kind ≤ 5; exact h2; exact absurd (this.2 h2) h)]; simp [h]
    show (bif bif bif bif nameB o.id then !(kindWord o.kind == ([] : Str)) else false then o.x == 0 && (o.y == 0 && true) else false then tagsB o.tags else false then countB o.kind o.refs.length && refsB o.kind o.refs else false) = _
    rw [hw]
    rw [Bool.eq_iff_iff]
    simp only [bif_and, Bool.and_eq_true, decide_eq_true_eq, beq_iff_eq]
    constructor
    · rintro ⟨⟨⟨⟨h1, h2⟩, h3, h4, _⟩, h5⟩, h6, h7⟩
      exact ⟨⟨⟨⟨⟨h2, h1⟩, h5⟩, h6⟩, h7⟩, h3, h4⟩
    · rintro ⟨⟨⟨⟨⟨h2, h1⟩, h5⟩, h6⟩, h7⟩, h3, h4⟩
      exact ⟨⟨⟨⟨h1, h2⟩, h3, h4, trivial⟩, h5⟩, h6, h7⟩
  · refine congrArg (fun b => AV.d (.bool b)) ?_
    rw [objB, atB, if_pos hb]
    have hw : (!(kindWord o.kind == ([] : Str))) = decide (1 ≤ o.kind ∧ o.kind ≤ 5) := by
      rw [hb]; rfl
    show (bif bif bif bif nameB o.id then !(kindWord o.kind == ([] : Str)) else false then onGrid o.x o.y else false then tagsB o.tags else false then countB o.kind o.refs.length && refsB o.kind o.refs else false) = _
    rw [hw]
    rw [Bool.eq_iff_iff]
    simp only [bif_and, Bool.and_eq_true, decide_eq_true_eq]
    constructor
    · rintro ⟨⟨⟨⟨h1, h2⟩, h3⟩, h5⟩, h6, h7⟩
      exact ⟨⟨⟨⟨⟨h2, h1⟩, h5⟩, h6⟩, h7⟩, h3⟩
    · rintro ⟨⟨⟨⟨⟨h2, h1⟩, h5⟩, h6⟩, h7⟩, h3⟩
      exact ⟨⟨⟨⟨h1, h2⟩, h3⟩, h5⟩, h6, h7⟩
end Go.Proofs
end
section
/- Contracts: the reference: searching, sound objects. -/
namespace Go.Proofs
open Go.Pm
set_option maxRecDepth 100000
set_option maxHeartbeats 4000000

def refKind (o : Obj) (i : Int) : Int := if o.kind = 4 ∨ (o.kind = 5 ∧ i ≠ 1) then 2 else 1
theorem c64 (o : Obj) (i : Int) : PCall Try.prog 64 [.d (encObj o), .d (.int .i64 i)] fun v => v = .d (.int .i64 (refKind o i)) := by
  refine PCall.intro Try.tabOk Try.f64 _ Try.func64 rfl (by decide) rfl fun z => ?_
  repeat' first
    | (with_reducible refine AW.seq ?_)
    | ((with_reducible refine AW.region Try.tabOk ?_); (conv => whnf))
    | ((with_reducible refine AW.ret ?_); (conv => whnf))
    | ((with_reducible refine AW.skip ?_); (conv => whnf))
    | ((with_reducible refine AW.cond ?_); (conv => whnf))
    | ((with_reducible apply Or.inl); apply Exists.intro; apply And.intro; (focus (intro hg; (conv => whnf); (repeat' first | (with_reducible exact ⟨rfl, rfl⟩) | ((with_reducible refine Own2.data ?_); (conv => whnf)) | (refine ⟨true, _, rfl, ?_⟩; (conv => whnf)) | (refine ⟨false, .nilp, rfl, ?_⟩; (conv => whnf)) | (refine ⟨_, _, by first | fail, ?_⟩; (conv => whnf)) | ((with_reducible apply Or.inl); (refine ⟨rfl, rfl, ?_⟩); (conv => whnf)) | ((with_reducible apply Or.inl); (with_reducible apply And.intro); (focus (first | assumption | (simp only [rng]; omega) | (simp [rng, IntKind.bits]; omega))); (conv => whnf)) | (refine ⟨by first | omega | (simp; omega) | (simp at hg ⊢; omega) | (refine ⟨rfl, ?_, ?_⟩ <;> first | (simp [maxLen]; done) | (simp [maxLen]; omega)) | (exact hg) | (intro hq_; rw [hg]; exact hq_) | (simp_all; first | done | fail), ?_⟩; (conv => whnf)) | ((with_reducible refine ACall.id ?_); (refine PCall.call (by first | fail) rfl ?_); (intro x hx; first | subst hx | (obtain ⟨l_, rfl, hl_⟩ := hx.out)); (conv => whnf)) | ((with_reducible apply Or.inr); (with_reducible exact ⟨rfl, rfl⟩)) | ((with_reducible apply Or.inr); (with_reducible apply And.intro) <;> (intro hb_; first | (cases hb_; done) | (conv => whnf))) | (intro hlen; (conv => whnf))); done)); (conv => whnf))
    | ((with_reducible apply And.intro); (focus (first | omega | assumption | (exact True.intro) | (simp; omega) | (exact Nat.le_of_ble_eq_true rfl) | (exact ⟨rfl, Nat.le_of_ble_eq_true rfl⟩) | (exact ⟨Nat.le_of_ble_eq_true rfl, Nat.le_of_ble_eq_true rfl⟩) | (intro hg; first | (simp; first | done | fail) | (simp at hg ⊢; exact hg) | (simp at hg; exact hg) | exact hg))); (conv => whnf))
    | ((with_reducible apply And.intro) <;> (intro hb; (try simp at hb); (try (exfalso; first | omega | (simp_all; first | done | fail))); (try (conv => whnf))))
  (try (any_goals (refine Side.mk ⟨rfl, ?_, ?_⟩ <;> first | (simp [maxLen]; done) | (simp [maxLen]; omega))))
  · rw [refKind, if_pos hb]
  · rw [refKind, if_neg (by omega)]
theorem ids_lt {m : List Obj} (hm : mapB m = true) {i j : Nat} (h : i < j) (hj : j < m.length) : ltS (m.getD i default).id (m.getD j default).id = true := by
  simp only [mapB, Bool.and_eq_true, decide_eq_true_eq] at hm
  have ha := hm.1.2
  obtain ⟨d, rfl⟩ : ∃ d, j = i + 1 + d := ⟨j - (i + 1), by omega⟩
  clear h
  induction d with
  | zero =>
    have := ha i (by simpa [ids] using hj)
    rwa [ids_getD, ids_getD] at this
  | succ d ih =>
    have h1 := ih (by omega)
    have := ha (i + 1 + d) (by simp [ids]; omega)
    rw [ids_getD, ids_getD] at this
    exact ltS_trans h1 this
theorem lt_below {m : List Obj} (hm : mapB m = true) {q j : Nat} {v : Str} (h1 : j ≤ q) (hq : q < m.length) (h : ltS (m.getD q default).id v = true) : ltS (m.getD j default).id v = true := by
  rcases Nat.lt_or_eq_of_le h1 with h2 | rfl
  · exact ltS_trans (ids_lt hm h2 hq) h
  · exact h
theorem c63 (m : List Obj) (v : Str) (hm : mapB m = true) : PCall Try.prog 63 [.d (encMap m), .d (.str v)] fun x => x = .d (.int .i64 (idx (ids m) v)) := by
  have hm6 := map_len6 hm
  refine PCall.intro Try.tabOk Try.f63 _ Try.func63 rfl (by decide) rfl fun z => ?_
  repeat' first
    | (with_reducible refine AW.seq ?_)
    | ((with_reducible refine AW.region Try.tabOk ?_); (conv => whnf))
    | ((with_reducible refine AW.block ?_))
    | (intro hlen; (conv => whnf))
  (try (any_goals (refine Side.mk ⟨rfl, ?_, ?_⟩ <;> first | (simp [maxLen]; done) | (simp [maxLen]; omega))))
  refine AW.loopS (X := Nat × Nat) [2, 1] [0] (fun x => [(5, .d (.int .i64 (x.1 : Int))), (6, .d (.int .i64 (x.2 : Int)))]) (fun i => []) (fun _ => 1)
    (fun x => x.1 ≤ x.2 ∧ x.2 ≤ m.length ∧ (∀ j, j < x.1 → ltS (m.getD j default).id v = true) ∧ (∀ j, x.2 ≤ j → j < m.length → ltS (m.getD j default).id v = false)) (fun x => x.2 - x.1) (0, m.length) ⟨Nat.zero_le _, Nat.le_refl _, fun j h => absurd h (Nat.not_lt_zero j), fun j h1 h2 => absurd h2 (by omega)⟩ (fun _ _ => rfl) (by refine ⟨rfl, rfl, rfl, ?_, ?_⟩ <;> repeat' (first | exact trivial | exact OLe.refl _ | exact AV.le_refl _ | apply And.intro)) ?_
  intro ⟨a, b⟩ ⟨hab, hb0, ha, hbb⟩
  dsimp only at hab hb0 ha hbb ⊢
  obtain ⟨q, hq, hq2⟩ : ∃ q : Nat, ((a : Int) + (b : Int)).tdiv 2 = (q : Int) ∧ (a < b → a ≤ q ∧ q < b) := ⟨(a + b) / 2, by rw [Int.tdiv_eq_ediv_of_nonneg (by omega)]; omega, by omega⟩
  repeat' first
    | (with_reducible refine AW.seq ?_)
    | ((with_reducible refine AW.region Try.tabOk ?_); (conv => whnf))
    | ((with_reducible refine AW.ret ?_); (conv => whnf))
    | ((with_reducible refine AW.block ?_))
    | ((with_reducible refine AW.exit ?_); (conv => whnf))
    | ((with_reducible refine AW.skip ?_); (conv => whnf))
    | ((with_reducible refine AW.cond ?_); (conv => whnf))
    | ((with_reducible apply Or.inl); apply Exists.intro; apply And.intro; (focus (intro hg; (conv => whnf); (repeat' first | (with_reducible exact ⟨rfl, rfl⟩) | ((with_reducible refine Own2.data ?_); (conv => whnf)) | (refine ⟨true, _, rfl, ?_⟩; (conv => whnf)) | (refine ⟨false, .nilp, rfl, ?_⟩; (conv => whnf)) | (refine ⟨_, _, by first | fail, ?_⟩; (conv => whnf)) | ((with_reducible apply Or.inl); (refine ⟨rfl, rfl, ?_⟩); (conv => whnf)) | ((with_reducible apply Or.inl); (with_reducible apply And.intro); (focus (first | assumption | (simp only [rng]; omega) | (simp [rng, IntKind.bits]; omega))); (conv => whnf)) | (refine ⟨by first | omega | (simp; omega) | (simp at hg ⊢; omega) | (refine ⟨rfl, ?_, ?_⟩ <;> first | (simp [maxLen]; done) | (simp [maxLen]; omega)) | (exact hg) | (intro hq_; rw [hg]; exact hq_) | (simp_all; first | done | fail), ?_⟩; (conv => whnf)) | ((with_reducible refine ACall.id ?_); (refine PCall.call (by first | fail) rfl ?_); (intro x hx; first | subst hx | (obtain ⟨l_, rfl, hl_⟩ := hx.out)); (conv => whnf)) | ((with_reducible apply Or.inr); (with_reducible exact ⟨rfl, rfl⟩)) | ((with_reducible apply Or.inr); (with_reducible apply And.intro) <;> (intro hb_; first | (cases hb_; done) | (conv => whnf))) | (intro hlen; (conv => whnf))); done)); (conv => whnf))
    | ((with_reducible apply Or.inl); (with_reducible apply And.intro); (focus (first | assumption | (simp only [rng]; omega) | (simp [rng, IntKind.bits]; omega))); (conv => whnf))
    | ((with_reducible apply And.intro); (focus (first | omega | assumption | (exact True.intro) | (simp; omega) | (exact Nat.le_of_ble_eq_true rfl) | (exact ⟨rfl, Nat.le_of_ble_eq_true rfl⟩) | (exact ⟨Nat.le_of_ble_eq_true rfl, Nat.le_of_ble_eq_true rfl⟩) | (intro hg; first | (simp; first | done | fail) | (simp at hg ⊢; exact hg) | (simp at hg; exact hg) | exact hg))); (conv => whnf))
    | ((with_reducible apply And.intro) <;> (intro hb; (try simp at hb); (try (exfalso; first | omega | (simp_all; first | done | fail))); (try (conv => whnf))))
    | (intro hlen; (conv => whnf))
  (try (any_goals (refine Side.mk ⟨rfl, ?_, ?_⟩ <;> first | (simp [maxLen]; done) | (simp [maxLen]; omega))))
  · rw [hq, Int.toNat_natCast, ← List.getD_eq_getElem?_getD] at hb
    have hab2 : a < b := by assumption
    have := hq2 hab2
    refine .mk (q + 1, b) ⟨by omega, hb0, fun j hj => ?_, hbb⟩ (by show b - (q + 1) < b - a; omega) ⟨rfl, rfl, rfl, ⟨OLe.refl _, trivial⟩, ⟨AV.le_of_eq (by rw [hq]; rfl), AV.le_refl _, AV.le_refl _, AV.le_refl _, trivial⟩, rfl⟩
    exact lt_below hm (by omega) (by omega) hb
  · rw [hq, Int.toNat_natCast, ← List.getD_eq_getElem?_getD] at hb
    have hab2 : a < b := by assumption
    have := hq2 hab2
    refine .mk (a, q) ⟨by omega, by omega, ha, fun j h1 h2 => ?_⟩ (by show q - a < b - a; omega) ⟨rfl, rfl, rfl, ⟨OLe.refl _, trivial⟩, ⟨AV.le_refl _, AV.le_of_eq (by rw [hq]; rfl), AV.le_refl _, AV.le_refl _, trivial⟩, rfl⟩
    cases h : ltS (m.getD j default).id v with
    | false => rfl
    | true => rw [show Op.bytesLess (m.getD q default).id v = true from lt_below (q := j) (j := q) hm (by omega) h2 h] at hb; cases hb
  · rw [← List.getD_eq_getElem?_getD] at hb
    rw [idx_found (i := a) (by simpa [ids] using hb.1) (by rw [ids_getD]; exact hb.2.symm) fun j hj e => ?_]
    rw [ids_getD] at e
    have := ltS_ne (ha j hj)
    exact this e.symm
  · rw [← List.getD_eq_getElem?_getD] at hb
    have he : b ≤ a := by assumption
    rw [idx_none fun j hj e => ?_]
    rw [ids_getD] at e
    have hj2 : j < m.length := by simpa [ids] using hj
    rcases Nat.lt_trichotomy j a with h | h | h
    · exact ltS_ne (ha j h) e.symm
    · subst h; exact hb hj2 e.symm
    · have h1 := hbb a he (by omega)
      have h2 := ids_lt hm h hj2
      rw [← e] at h2
      rw [h2] at h1; cases h1
def findO (m : List Obj) (v : Str) : Option Obj := m.find? fun x => decide (x.id = v)
theorem idx_findO (m : List Obj) (v : Str) : (idx (ids m) v = -1 ∧ findO m v = none) ∨ ∃ k : Nat, k < m.length ∧ idx (ids m) v = (k : Int) ∧ findO m v = some (m.getD k default) := by
  unfold idx
  cases h : (ids m).findIdx? (fun s => v == s) with
  | none =>
    left
    refine ⟨rfl, ?_⟩
    rw [List.findIdx?_eq_none_iff] at h
    unfold findO
    rw [List.find?_eq_none]
    intro x hx
    have := h x.id (by unfold ids; exact List.mem_map.2 ⟨x, hx, rfl⟩)
    simp at this ⊢
    exact fun e => this e.symm
  | some k =>
    right
    rw [List.findIdx?_eq_some_iff_getElem] at h
    obtain ⟨hk, h1, h2⟩ := h
    have hk' : k < m.length := by simpa [ids] using hk
    refine ⟨k, hk', rfl, ?_⟩
    unfold findO
    rw [List.getD_eq_getElem?_getD, List.getElem?_eq_getElem hk', List.find?_eq_some_iff_getElem]
    refine ⟨?_, k, hk', rfl, fun j hj => ?_⟩
    · simp [ids] at h1; simp [h1]
    · have := h2 j hj
      simp [ids] at this
      simp; exact fun e => this e.symm
def okRef (m : List Obj) (o : Obj) (f : Obj → Bool) (i : Nat) : Bool := match findO m (o.refs.getD i []) with
  | some x => decide (x.kind = refKind o i) && f x
  | none => false
def soundF (m : List Obj) (f : Obj → Bool) (o : Obj) : Bool := (List.range o.refs.length).all (okRef m o f)
theorem okRef_none {m : List Obj} {o : Obj} {f : Obj → Bool} {i : Nat} (h : findO m (o.refs.getD i []) = none) : okRef m o f i = false := by rw [okRef, h]
theorem okRef_some {m : List Obj} {o x : Obj} {f : Obj → Bool} {i : Nat} (h : findO m (o.refs.getD i []) = some x) : okRef m o f i = (decide (x.kind = refKind o i) && f x) := by rw [okRef, h]
theorem sound_false {m : List Obj} {f : Obj → Bool} {o : Obj} {i : Nat} (hi : i < o.refs.length) (h : okRef m o f i = false) : soundF m f o = false := by
  unfold soundF
  rw [List.all_eq_false]
  exact ⟨i, List.mem_range.2 hi, by rw [h]; simp⟩
theorem sound_true {m : List Obj} {f : Obj → Bool} {o : Obj} (h : ∀ k, k < o.refs.length → okRef m o f k = true) : soundF m f o = true := by
  unfold soundF
  rw [List.all_eq_true]
  exact fun k hk => h k (List.mem_range.1 hk)
theorem guard_no {k : Nat} {a b : Int} (h : ¬a = b) (hg : (!bif decide ((k : Int) < 0) then true else a != b) = true) : False := by
  simp at hg; exact h hg
theorem c27s (m : List Obj) (hm : mapB m = true) (f : Obj → Bool) (o : Obj) (hrec : o.refs ≠ [] → ∀ k : Nat, k < m.length → (∃ i, (m.getD k default).kind = refKind o i) → PCall Try.prog 27 [.d (encMap m), .d (encObj (m.getD k default))] fun v => v = .d (.bool (f (m.getD k default)))) :
    PCall Try.prog 27 [.d (encMap m), .d (encObj o)] fun v => v = .d (.bool (soundF m f o)) := by
  refine PCall.intro Try.tabOk Try.f27 _ Try.func27 rfl (by decide) rfl fun z => ?_
  repeat' first
    | (with_reducible refine AW.seq ?_)
    | ((with_reducible refine AW.region Try.tabOk ?_); (conv => whnf))
    | ((with_reducible refine AW.block ?_))
  (try (any_goals (refine Side.mk ⟨rfl, ?_, ?_⟩ <;> first | (simp [maxLen]; done) | (simp [maxLen]; omega))))
  refine AW.loopS (X := Nat) [3, 2] [1, 0] (fun i => [(5, .d (.int .i64 (i : Int)))]) (fun i => []) (fun _ => 2)
    (fun i => i ≤ o.refs.length ∧ ∀ k, k < i → okRef m o f k = true) (fun i => o.refs.length - i) 0 ⟨Nat.zero_le _, fun k h => absurd h (Nat.not_lt_zero k)⟩ (fun _ _ => rfl) (by refine ⟨rfl, rfl, rfl, ?_, ?_⟩ <;> repeat' (first | exact trivial | exact OLe.refl _ | exact AV.le_refl _ | apply And.intro)) ?_
  intro i ⟨hi, hw⟩
  dsimp only at hi hw ⊢
  rcases idx_findO m (o.refs.getD i []) with ⟨e1, e2⟩ | ⟨k, hk, e1, e2⟩
  · have c63n : PCall Try.prog 63 [.d (encMap m), .d (.str (o.refs.getD i []))] fun x => x = .d (.int .i64 (-1)) := by have := c63 m (o.refs.getD i []) hm; rwa [e1] at this
    repeat' first
      | (with_reducible refine AW.seq ?_)
      | ((with_reducible refine AW.region Try.tabOk ?_); (conv => whnf))
      | ((with_reducible refine AW.draw Try.tabOk Try.mixed ?_ ?_); (focus rfl); (conv => whnf))
      | ((with_reducible refine AW.ret ?_); (conv => whnf))
      | ((with_reducible refine AW.block ?_))
      | ((with_reducible refine AW.exit ?_); (conv => whnf))
      | ((with_reducible refine AW.skip ?_); (conv => whnf))
      | ((with_reducible refine AW.cond ?_); (conv => whnf))
      | (refine ⟨_, ⟨rfl, rfl⟩, ?_⟩; (conv => whnf))
      | (refine ⟨.d (.bool true), ?_, ?_⟩; (focus (intro hg; exfalso; revert hg; decide)); (conv => whnf))
      | (apply Exists.intro; apply And.intro; (focus (first | (intro hg; (conv => whnf)) | (conv => whnf)); (repeat' first | (with_reducible exact ⟨rfl, rfl⟩) | ((with_reducible refine Own2.data ?_); (conv => whnf)) | (refine ⟨true, _, rfl, ?_⟩; (conv => whnf)) | (refine ⟨false, .nilp, rfl, ?_⟩; (conv => whnf)) | (refine ⟨_, _, by first | exact c63n | exact c64 _ _, ?_⟩; (conv => whnf)) | ((with_reducible apply Or.inl); (refine ⟨rfl, rfl, ?_⟩); (conv => whnf)) | ((with_reducible apply Or.inl); (with_reducible apply And.intro); (focus (first | assumption | (simp only [rng]; omega) | (simp [rng, IntKind.bits]; omega))); (conv => whnf)) | (refine ⟨by first | omega | (simp; omega) | (simp at hg ⊢; omega) | (refine ⟨rfl, ?_, ?_⟩ <;> first | (simp [maxLen]; done) | (simp [maxLen]; omega)) | (exact hg) | (intro hq_; rw [hg]; exact hq_) | (simp_all; first | done | fail), ?_⟩; (conv => whnf)) | ((with_reducible refine ACall.id ?_); (refine PCall.call (by first | exact c63n | exact c64 _ _) rfl ?_); (intro x hx; first | subst hx | (obtain ⟨l_, rfl, hl_⟩ := hx.out)); (conv => whnf)) | ((with_reducible apply Or.inr); (with_reducible exact ⟨rfl, rfl⟩)) | ((with_reducible apply Or.inr); (with_reducible apply And.intro) <;> (intro hb_; first | (cases hb_; done) | (conv => whnf))) | (intro hlen; (conv => whnf))); done); (conv => whnf))
      | ((with_reducible apply And.intro) <;> (intro hb; (try simp at hb); (try (exfalso; first | omega | (simp_all; first | done | fail))); (try (conv => whnf))))
      | (intro hlen; (conv => whnf))
    (try (any_goals (refine Side.mk ⟨rfl, ?_, ?_⟩ <;> first | (simp [maxLen]; done) | (simp [maxLen]; omega))))
    · have hit : i < o.refs.length := by assumption
      rw [sound_false hit (okRef_none e2)]
    · have he : i = o.refs.length := by omega
      subst he
      rw [sound_true hw]
  · have c63s : PCall Try.prog 63 [.d (encMap m), .d (.str (o.refs.getD i []))] fun x => x = .d (.int .i64 (k : Int)) := by have := c63 m (o.refs.getD i []) hm; rwa [e1] at this
    by_cases hkd : (m.getD k default).kind = refKind o i
    · by_cases hne : i = o.refs.length
      · subst hne
        repeat' first
          | (with_reducible refine AW.seq ?_)
          | ((with_reducible refine AW.region Try.tabOk ?_); (conv => whnf))
          | ((with_reducible refine AW.ret ?_); (conv => whnf))
          | ((with_reducible refine AW.exit ?_); (conv => whnf))
          | ((with_reducible refine AW.cond ?_); (conv => whnf))
          | ((with_reducible apply And.intro) <;> (intro hb; (try simp at hb); (try (exfalso; first | omega | (simp_all; first | done | fail))); (try (conv => whnf))))
          | (intro hlen; (conv => whnf))
        (try (any_goals (refine Side.mk ⟨rfl, ?_, ?_⟩ <;> first | (simp [maxLen]; done) | (simp [maxLen]; omega))))
        rw [sound_true hw]
      · have hit : i < o.refs.length := by omega
        have hr := hrec (fun e => by rw [e] at hit; simp at hit) k hk ⟨i, hkd⟩
        repeat' first
          | (with_reducible refine AW.seq ?_)
          | ((with_reducible refine AW.region Try.tabOk ?_); (conv => whnf))
          | ((with_reducible refine AW.draw Try.tabOk Try.mixed ?_ ?_); (focus rfl); (conv => whnf))
          | ((with_reducible refine AW.ret ?_); (conv => whnf))
          | ((with_reducible refine AW.block ?_))
          | ((with_reducible refine AW.skip ?_); (conv => whnf))
          | ((with_reducible refine AW.cond ?_); (conv => whnf))
          | (refine ⟨_, ⟨rfl, rfl⟩, ?_⟩; (conv => whnf))
          | (apply Exists.intro; apply And.intro; (focus (first | (intro hg; (conv => whnf)) | (conv => whnf)); (repeat' first | (with_reducible exact ⟨rfl, rfl⟩) | ((with_reducible refine Own2.data ?_); (conv => whnf)) | (refine ⟨true, _, rfl, ?_⟩; (conv => whnf)) | (refine ⟨false, .nilp, rfl, ?_⟩; (conv => whnf)) | (refine ⟨_, _, by first | exact c63s | exact c64 _ _ | exact hr, ?_⟩; (conv => whnf)) | ((with_reducible apply Or.inl); (refine ⟨rfl, rfl, ?_⟩); (conv => whnf)) | ((with_reducible apply Or.inl); (with_reducible apply And.intro); (focus (first | assumption | (simp only [rng]; omega) | (simp [rng, IntKind.bits]; omega))); (conv => whnf)) | (refine ⟨by first | omega | (simp; omega) | (simp at hg ⊢; omega) | (refine ⟨rfl, ?_, ?_⟩ <;> first | (simp [maxLen]; done) | (simp [maxLen]; omega)) | (exact hg) | (intro hq_; rw [hg]; exact hq_) | (simp_all; first | done | fail), ?_⟩; (conv => whnf)) | ((with_reducible refine ACall.id ?_); (refine PCall.call (by first | exact c63s | exact c64 _ _ | exact hr) rfl ?_); (intro x hx; first | subst hx | (obtain ⟨l_, rfl, hl_⟩ := hx.out)); (conv => whnf)) | ((with_reducible apply Or.inr); (with_reducible exact ⟨rfl, rfl⟩)) | ((with_reducible apply Or.inr); (with_reducible apply And.intro) <;> (intro hb_; first | (cases hb_; done) | (conv => whnf))) | (intro hlen; (conv => whnf))); done); (conv => whnf))
          | ((with_reducible apply Or.inl); (with_reducible apply And.intro); (focus (first | assumption | (simp only [rng]; omega) | (simp [rng, IntKind.bits]; omega))); (conv => whnf))
          | ((with_reducible apply And.intro) <;> (intro hb; (try simp at hb); (try (exfalso; first | omega | (simp_all; first | done | fail))); (try (conv => whnf))))
          | (intro hlen; (conv => whnf))
        (try (any_goals (refine Side.mk ⟨rfl, ?_, ?_⟩ <;> first | (simp [maxLen]; done) | (simp [maxLen]; omega))))
        · have hb : ((k : Int) < 0 ∨ ¬(m[k]?.getD default).kind = refKind o i) ∨ f (m[k]?.getD default) = false := by assumption
          rw [← List.getD_eq_getElem?_getD] at hb
          have : f (m.getD k default) = false := by
            rcases hb with (h | h) | h
            · omega
            · exact absurd hkd h
            · exact h
          rw [sound_false hit (by rw [okRef_some e2, this, Bool.and_false])]
        · have hb : (m[k]?.getD default).kind = refKind o i ∧ f (m[k]?.getD default) = true := by assumption
          rw [← List.getD_eq_getElem?_getD] at hb
          exact .mk (i + 1) ⟨hit, upto_lt hw (by rw [okRef_some e2, decide_eq_true hkd, hb.2]; rfl)⟩ (by show o.refs.length - (i + 1) < o.refs.length - i; omega) (by refine ⟨rfl, rfl, rfl, ?_, ?_, rfl⟩ <;> repeat' (first | exact trivial | exact OLe.refl _ | exact AV.le_refl _ | apply And.intro))
    · skip
      repeat' first
        | (with_reducible refine AW.seq ?_)
        | ((with_reducible refine AW.region Try.tabOk ?_); (conv => whnf))
        | ((with_reducible refine AW.draw Try.tabOk Try.mixed ?_ ?_); (focus rfl); (conv => whnf))
        | ((with_reducible refine AW.ret ?_); (conv => whnf))
        | ((with_reducible refine AW.block ?_))
        | ((with_reducible refine AW.exit ?_); (conv => whnf))
        | ((with_reducible refine AW.skip ?_); (conv => whnf))
        | ((with_reducible refine AW.cond ?_); (conv => whnf))
        | (refine ⟨_, ⟨rfl, rfl⟩, ?_⟩; (conv => whnf))
        | (apply Exists.intro; apply And.intro; (focus (first | (intro hg; (conv => whnf)) | (conv => whnf)); (repeat' first | (with_reducible exact ⟨rfl, rfl⟩) | ((with_reducible refine Own2.data ?_); (conv => whnf)) | (refine ⟨true, _, rfl, ?_⟩; (conv => whnf)) | (refine ⟨false, .nilp, rfl, ?_⟩; (conv => whnf)) | (refine ⟨_, _, by first | exact c63s | exact c64 _ _ | exact (show PCall Try.prog 27 [.d (encMap m), .d (encObj (m.getD k default))] (fun v => v = .d (.bool true)) from (guard_no hkd hg).elim), ?_⟩; (conv => whnf)) | ((with_reducible apply Or.inl); (refine ⟨rfl, rfl, ?_⟩); (conv => whnf)) | ((with_reducible apply Or.inl); (with_reducible apply And.intro); (focus (first | assumption | (simp only [rng]; omega) | (simp [rng, IntKind.bits]; omega))); (conv => whnf)) | (refine ⟨by first | omega | (simp; omega) | (simp at hg ⊢; omega) | (refine ⟨rfl, ?_, ?_⟩ <;> first | (simp [maxLen]; done) | (simp [maxLen]; omega)) | (exact hg) | (intro hq_; rw [hg]; exact hq_) | (simp_all; first | done | fail), ?_⟩; (conv => whnf)) | ((with_reducible refine ACall.id ?_); (refine PCall.call (by first | exact c63s | exact c64 _ _ | exact (show PCall Try.prog 27 [.d (encMap m), .d (encObj (m.getD k default))] (fun v => v = .d (.bool true)) from (guard_no hkd hg).elim)) rfl ?_); (intro x hx; first | subst hx | (obtain ⟨l_, rfl, hl_⟩ := hx.out)); (conv => whnf)) | ((with_reducible apply Or.inr); (with_reducible exact ⟨rfl, rfl⟩)) | ((with_reducible apply Or.inr); (with_reducible apply And.intro) <;> (intro hb_; first | (cases hb_; done) | (conv => whnf))) | (intro hlen; (conv => whnf))); done); (conv => whnf))
        | ((with_reducible apply And.intro) <;> (intro hb; (try simp at hb); (try (exfalso; first | omega | (simp_all; first | done | fail))); (try (conv => whnf))))
        | (intro hlen; (conv => whnf))
      (try (any_goals (refine Side.mk ⟨rfl, ?_, ?_⟩ <;> first | (simp [maxLen]; done) | (simp [maxLen]; omega))))
      · have hit : i < o.refs.length := by assumption
        rw [sound_false hit (by rw [okRef_some e2, decide_eq_false hkd, Bool.false_and])]
      · have he : i = o.refs.length := by omega
        subst he
        rw [sound_true hw]
theorem c84 (m : List Obj) : PCall Try.prog 84 [.d (encMap m)] fun x => x = .d (.bool (mapB m)) := by
  refine PCall.intro Try.tabOk Try.f84 _ Try.func84 rfl (by decide) rfl fun z => ?_
  repeat' first
    | (with_reducible refine AW.seq ?_)
    | ((with_reducible refine AW.region Try.tabOk ?_); (conv => whnf))
    | ((with_reducible refine AW.ret ?_); (conv => whnf))
    | ((with_reducible refine AW.block ?_))
    | ((with_reducible refine AW.skip ?_); (conv => whnf))
    | ((with_reducible refine AW.cond ?_); (conv => whnf))
    | ((with_reducible apply And.intro) <;> (intro hb; (try simp at hb); (try (exfalso; first | omega | (simp_all; first | done | fail))); (try (conv => whnf))))
    | (intro hlen; (conv => whnf))
  (try (any_goals (refine Side.mk ⟨rfl, ?_, ?_⟩ <;> first | (simp [maxLen]; done) | (simp [maxLen]; omega))))
  · have hb : 1000000 < (m.length : Int) := by assumption
    have : mapB m = false := by
      rw [← Bool.not_eq_true]
      intro h
      have := map_len6 h; omega
    rw [this]
  have hl6 : (m.length : Int) ≤ 1000000 := by assumption
  refine AW.loopS (X := Nat) [1] [0] (fun i => [(3, .d (.int .i64 (i : Int)))]) (fun i => []) (fun _ => 1)
    (fun i => i ≤ m.length ∧ (∀ j, j < i → objB (m.getD j default) = true) ∧ ∀ j, j + 1 < i → ltS (m.getD j default).id (m.getD (j + 1) default).id = true) (fun i => m.length - i) 0 ⟨Nat.zero_le _, fun j h => absurd h (Nat.not_lt_zero j), fun j h => absurd h (by omega)⟩ (fun _ _ => rfl) (by refine ⟨rfl, rfl, rfl, ?_, ?_⟩ <;> repeat' (first | exact trivial | exact OLe.refl _ | exact AV.le_refl _ | apply And.intro)) ?_
  intro i ⟨hi, hw, ha⟩
  dsimp only at hi ⊢
  repeat' first
    | (with_reducible refine AW.seq ?_)
    | ((with_reducible refine AW.region Try.tabOk ?_); (conv => whnf))
    | ((with_reducible refine AW.draw Try.tabOk Try.mixed ?_ ?_); (focus rfl); (conv => whnf))
    | ((with_reducible refine AW.ret ?_); (conv => whnf))
    | ((with_reducible refine AW.block ?_))
    | ((with_reducible refine AW.exit ?_); (conv => whnf))
    | ((with_reducible refine AW.skip ?_); (conv => whnf))
    | ((with_reducible refine AW.cond ?_); (conv => whnf))
    | (refine ⟨_, ⟨rfl, rfl⟩, ?_⟩; (conv => whnf))
    | (apply Exists.intro; apply And.intro; (focus (first | (intro hg; (conv => whnf)) | (conv => whnf)); (repeat' first | (with_reducible exact ⟨rfl, rfl⟩) | ((with_reducible refine Own2.data ?_); (conv => whnf)) | (refine ⟨true, _, rfl, ?_⟩; (conv => whnf)) | (refine ⟨false, .nilp, rfl, ?_⟩; (conv => whnf)) | (refine ⟨_, _, by first | exact c106 _, ?_⟩; (conv => whnf)) | ((with_reducible apply Or.inl); (refine ⟨rfl, rfl, ?_⟩); (conv => whnf)) | ((with_reducible apply Or.inl); (with_reducible apply And.intro); (focus (first | assumption | (simp only [rng]; omega) | (simp [rng, IntKind.bits]; omega))); (conv => whnf)) | (refine ⟨by first | omega | (simp; omega) | (simp at hg ⊢; omega) | (refine ⟨rfl, ?_, ?_⟩ <;> first | (simp [maxLen]; done) | (simp [maxLen]; omega)) | (exact hg) | (intro hq_; rw [hg]; exact hq_) | (simp_all; first | done | fail), ?_⟩; (conv => whnf)) | ((with_reducible refine ACall.id ?_); (refine PCall.call (by first | exact c106 _) rfl ?_); (intro x hx; first | subst hx | (obtain ⟨l_, rfl, hl_⟩ := hx.out)); (conv => whnf)) | ((with_reducible apply Or.inr); (with_reducible exact ⟨rfl, rfl⟩)) | ((with_reducible apply Or.inr); (with_reducible apply And.intro) <;> (intro hb_; first | (cases hb_; done) | (conv => whnf))) | (intro hlen; (conv => whnf))); done); (conv => whnf))
    | ((with_reducible apply Or.inl); (with_reducible apply And.intro); (focus (first | assumption | (simp only [rng]; omega) | (simp [rng, IntKind.bits]; omega))); (conv => whnf))
    | ((with_reducible apply And.intro) <;> (intro hb; (try simp at hb); (try (exfalso; first | omega | (simp_all; first | done | fail))); (try (conv => whnf))))
    | (intro hlen; (conv => whnf))
  (try (any_goals (refine Side.mk ⟨rfl, ?_, ?_⟩ <;> first | (simp [maxLen]; done) | (simp [maxLen]; omega))))
  · have hit : i < m.length := by assumption
    have : mapB m = false := by
      rw [← Bool.not_eq_true]
      intro h
      simp only [mapB, Bool.and_eq_true, decide_eq_true_eq] at h
      obtain ⟨⟨h1, h2⟩, h3⟩ := h
      have h1 := (List.all_eq_true.1 h1) (m.getD i default) (by rw [List.getD_eq_getElem?_getD, List.getElem?_eq_getElem hit]; simp)
      simp only [← List.getD_eq_getElem?_getD] at hb
      rcases hb with hb | ⟨hb0, hb⟩
      · rw [hb] at h1; cases h1
      · have := h2 (i - 1) (by simp [ids]; omega)
        rw [show i - 1 + 1 = i by omega, ids_getD m i, ids_getD m (i - 1)] at this
        rw [show ltS (m.getD (i - 1) default).id (m.getD i default).id = false from hb] at this; cases this
    rw [this]
  · have hit : i < m.length := by assumption
    simp only [← List.getD_eq_getElem?_getD] at hb
    refine .mk (i + 1) ⟨hit, fun j hj => ?_, fun j hj => ?_⟩ (by show m.length - (i + 1) < m.length - i; omega) (by refine ⟨rfl, rfl, rfl, ?_, ?_, rfl⟩ <;> repeat' (first | exact trivial | exact OLe.refl _ | exact AV.le_refl _ | apply And.intro))
    · by_cases e : j = i
      · subst e; exact hb.1
      · exact hw j (by omega)
    · by_cases e : j + 1 = i
      · have h := hb.2 (by omega)
        subst e
        exact h
      · exact ha j (by omega)
  · have he : i = m.length := by omega
    subst he
    have h1 : m.all objB = true := all_of_getD default hw
    have h2 : ascP (ids m) := fun j hj => by
      rw [ids, List.length_map] at hj
      rw [ids_getD, ids_getD]; exact ha j hj
    have : mapB m = true := by
      simp only [mapB, h1, h2, decide_true, Bool.and_true, Bool.true_and, decide_eq_true_eq]
      omega
    rw [this]
end Go.Proofs
end
