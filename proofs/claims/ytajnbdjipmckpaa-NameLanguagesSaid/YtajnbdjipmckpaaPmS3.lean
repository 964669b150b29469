/- What the functions of the program compute, each as a contract: the conditions stand in each statement. -/
import Derived.Test.YtajnbdjipmckpaaPmS2
import Derived.Shelf.Strings.OnBuilder
import Derived.Test.YtajnbdjipmckpaaPmG3
section
/- Contracts: joining strings (by the shelf's contract), folding names. -/
namespace Go.Proofs
open Go.Pm Go.Shelf
set_option maxRecDepth 100000
set_option maxHeartbeats 4000000

def Try.lays156_ren : Ren where
  f := fun x => match x with
    | 156 => 70
    | 165 => 98
    | 166 => 99
    | 169 => 100
    | 240 => 111
    | 241 => 112
    | 276 => 120
    | 277 => 121
    | n => n
  t := fun x => match x with
    | 31 => 39
    | 9 => 9
    | 3 => 3
    | 4 => 4
    | 0 => 0
    | 20 => 20
    | 72 => 128
    | 76 => 132
    | 70 => 126
    | 37 => 101
    | 75 => 131
    | 127 => 148
    | 164 => 152
    | 5 => 5
    | 80 => 134
    | n => n
  g := fun x => x
theorem Try.lays156 : Lays.n156 Try.prog Try.lays156_ren where
  mixed := Try.mixed
  f156 := Eq.trans Try.func70 (congrArg some (by kernel_rfl))
  f165 := Eq.trans Try.func98 (congrArg some (by kernel_rfl))
  f166 := Eq.trans Try.func99 (congrArg some (by kernel_rfl))
  f169 := Eq.trans Try.func100 (congrArg some (by kernel_rfl))
  f240 := Eq.trans Try.func111 (congrArg some (by kernel_rfl))
  f241 := Eq.trans Try.func112 (congrArg some (by kernel_rfl))
  f276 := Eq.trans Try.func120 (congrArg some (by kernel_rfl))
  f277 := Eq.trans Try.func121 (congrArg some (by kernel_rfl))
  t0 := Try.underlying0
  a0 := Try.isAgg0
  z0 := Try.sizeOf0
  v0 := Try.zeroValue0
  t3 := Try.underlying3
  a3 := Try.isAgg3
  z3 := Try.sizeOf3
  v3 := Try.zeroValue3
  t4 := Try.underlying4
  a4 := Try.isAgg4
  z4 := Try.sizeOf4
  v4 := Try.zeroValue4
  t9 := Try.underlying9
  a9 := Try.isAgg9
  z9 := Try.sizeOf9
  v9 := Try.zeroValue9
  t20 := Try.underlying20
  a20 := Try.isAgg20
  z20 := Try.sizeOf20
  v20 := Try.zeroValue20
  t31 := Try.underlying39
  a31 := Try.isAgg39
  z31 := Try.sizeOf39
  v31 := Try.zeroValue39
  t37 := Try.underlying101
  a37 := Try.isAgg101
  z37 := Try.sizeOf101
  v37 := Try.zeroValue101
  t70 := Try.underlying126
  a70 := Try.isAgg126
  z70 := Try.sizeOf126
  v70 := Try.zeroValue126
  t72 := Try.underlying128
  a72 := Try.isAgg128
  z72 := Try.sizeOf128
  v72 := Try.zeroValue128
  t75 := Try.underlying131
  a75 := Try.isAgg131
  z75 := Try.sizeOf131
  v75 := Try.zeroValue131
  t76 := Try.underlying132
  a76 := Try.isAgg132
  z76 := Try.sizeOf132
  v76 := Try.zeroValue132
  t127 := Try.underlying148
  a127 := Try.isAgg148
  z127 := Try.sizeOf148
  v127 := Try.zeroValue148
  t164 := Try.underlying152
  a164 := Try.isAgg152
  z164 := Try.sizeOf152
  v164 := Try.zeroValue152
theorem Try.extra156 : Builder.Extra Try.prog Try.lays156_ren where
  sizeBuilder := by kernel_rfl
  liesBuilder := by kernel_rfl
  t5 := Try.underlying5
  a5 := Try.isAgg5
  z5 := Try.sizeOf5
  v5 := Try.zeroValue5
  infoByte := by kernel_rfl
  cellsByte := by kernel_rfl
  sizeByte := by kernel_rfl
  neB5 := by decide

/-- A contract of the library's, of data, that turns nothing that was there. -/
theorem PCall.below {P : Program} {f : FuncId} {args : List AV} {R : AV → Prop} (hpl : PlainFn P f)
    (h : ∀ (ok : Nat → Prop) (w : World) (vs : List Value), vs.length = args.length → (∀ (i : Nat) (d : D) (v : Value), args[i]? = some (.d d) → vs[i]? = some v → DRel ok w d v) →
      Calls P f vs.toArray w fun e w' => ∃ (x : D) (v : Value), e = .returned v ∧ R (.d x) ∧ Go.RowKit.Below w.heap.size w w' ∧ DRel ok w' x v) : PCall P f args R := by
  refine ⟨fun μ w vs hh hl hr => .inl ⟨hpl, ?_⟩⟩
  refine (h (okOf μ) w vs hl fun i d v h1 h2 => ?_).mono fun e w' ⟨x, v, he, hR, hb, hd⟩ => ?_
  · have := hr i _ v h1 h2
    cases this; assumption
  · have hn : ∀ i, μ.pos i = none := fun i => hh.hi i (Nat.zero_le i)
    refine ⟨.d x, Heap.none, μ, v, he, ⟨rfl, hR⟩, ⟨hh.outs, fun k hk => hh.fresh k (Nat.le_trans hb.size hk), fun i => ?_, hh.hi, hh.inj⟩, ⟨hb.os, hb.tape, hb.output, hb.size, rfl, fun k hk _ => hb.block k hk, fun i bd' hi _ => absurd hi (Nat.not_lt_zero i), fun i bd' _ hi => (by rw [hn i] at hi; cases hi)⟩, Nat.le_refl _, .d _ _ hd⟩
    show μ.pos i = none
    exact hn i

def joinS (L : List Str) (sep : Str) : Str := Lib.join L sep
theorem c70 (L : List Str) (sep : Str) (h1 : L.length ≤ 140737488355328) (h2 : (joinS L sep).length ≤ 140737488355328) : PCall Try.prog 70 [.d (encStrs L), .d (.str sep)] fun x => x = .d (.str (joinS L sep)) := by
  refine PCall.below ⟨Try.f70, Try.func70, by decide, rfl⟩ fun ok w vs hl hr => ?_
  match vs, hl with
  | [a, b], _ =>
    have h0 := hr 0 _ a rfl rfl
    have hb := hr 1 _ b rfl rfl
    cases hb
    have hlen : (joinS L sep).length ≤ maxLen := by simp only [maxLen]; omega
    have hxs : (L.map fun s : Str => (⟨s.toArray⟩ : ByteArray)).map (fun x => x.data.toList) = L := by
      rw [List.map_map]; simp [Function.comp_def]
    have hsep : (⟨sep.toArray⟩ : ByteArray).data.toList = sep := by simp
    have fin : ∀ (e : Ending) (w' : World), (e = .returned (.string ⟨(Lib.join ((L.map fun s : Str => (⟨s.toArray⟩ : ByteArray)).map (fun x => x.data.toList)) (⟨sep.toArray⟩ : ByteArray).data.toList).toArray⟩) ∧ Go.RowKit.Below w.heap.size w w') →
        ∃ (x : D) (v : Value), e = .returned v ∧ (AV.d x = .d (.str (joinS L sep))) ∧ Go.RowKit.Below w.heap.size w w' ∧ DRel ok w' x v := by
      intro e w' ⟨he, hbl⟩
      rw [hxs, hsep] at he
      exact ⟨_, _, he, rfl, hbl, .str _ hlen⟩
    cases h0; rename_i h0
    cases L with
    | nil =>
      have h0' : DRel ok w (.list 1 []) a := h0
      cases h0' with
      | empty sz bb c hc =>
        exact (Any.strings_Join_none Try.lays156 Try.extra156 bb c ⟨sep.toArray⟩ w).mono fun e w' ⟨he, hw⟩ => fin e w' ⟨he, hw ▸ Go.RowKit.Below.refl _ _⟩
      | list sz l a c vs hl hc hok hsz hone hcell h =>
        exact (Any.strings_Join_none Try.lays156 Try.extra156 _ c ⟨sep.toArray⟩ w).mono fun e w' ⟨he, hw⟩ => fin e w' ⟨he, hw ▸ Go.RowKit.Below.refl _ _⟩
    | cons s0 r =>
      have hne : tabl (s0 :: r).length (fun i => D.str ((s0 :: r).getD i [])) = (s0 :: r).map D.str := by
        apply List.ext_getElem?
        intro i
        by_cases hi : i < (s0 :: r).length
        · rw [tabl_get _ _ _ hi, List.getElem?_map, List.getElem?_eq_getElem hi, List.getD_eq_getElem?_getD, List.getElem?_eq_getElem hi]; rfl
        · rw [List.getElem?_eq_none (by rw [tabl_length]; omega), List.getElem?_eq_none (by rw [List.length_map]; omega)]
      rw [hne] at h0
      generalize hL : (s0 :: r).map D.str = l at h0
      cases h0 with
      | empty sz bb c hc => simp at hL
      | list sz l a c vs hlc hc hok hsz hone hcell h =>
        have hll : l.length = (s0 :: r).length := by rw [← hL]; simp
        have hget : ∀ (j : Nat) (s : Str), (s0 :: r)[j]? = some s → w.cell? (a.add (j * 1 + 0)) = some (.string ⟨s.toArray⟩) := by
          intro j s hs
          have hj : l[j]? = some (.str s) := by rw [← hL, List.getElem?_map, hs]; rfl
          have h1 := hcell j _ 0 _ hj rfl
          have h2 := h j _ 0 _ hj rfl
          cases hv : vs j 0 <;> rw [hv] at h2 <;> cases h2
          rw [h1, hv]
        have ha0 := hget 0 s0 rfl
        obtain ⟨bk, o, sp⟩ := a
        have hsp : sp = none := by
          have : (⟨bk, o, sp⟩ : Addr).add (0 * 1 + 0) = ⟨bk, o, sp⟩ := by simp [Addr.add]
          rw [this] at ha0
          cases sp with
          | none => rfl
          | some q =>
            unfold World.cell? at ha0
            split at ha0
            · simp at ha0
            · cases ha0
        subst hsp
        have hbk : bk < w.heap.size := World.block_lt_of_cell? w ⟨bk, o, none⟩ (by simpa [Addr.add] using ha0)
        have hcells : ∀ (j : Nat) x, ((s0 :: r).map fun s : Str => (⟨s.toArray⟩ : ByteArray))[j]? = some x → w.cell? ⟨bk, o + j, none⟩ = some (.string x) := by
          intro j x hx
          rw [List.getElem?_map, Option.map_eq_some_iff] at hx
          obtain ⟨s, hs, rfl⟩ := hx
          have := hget j s hs
          rwa [Nat.mul_one, Nat.add_zero, add_lit] at this
        have hll2 : l.length = ((s0 :: r).map fun s : Str => (⟨s.toArray⟩ : ByteArray)).length := by rw [hll]; simp
        rw [hll2]
        exact (Any.strings_Join Try.lays156 Try.extra156 bk o c ((s0 :: r).map fun s : Str => (⟨s.toArray⟩ : ByteArray)) ⟨sep.toArray⟩ w hcells hbk (by rw [List.length_map]; exact h1) (by rw [← hll2]; exact hlc)
          (by rw [hxs, hsep]; exact h2)).mono fin

def lowB (c : UInt8) : UInt8 := if 65 ≤ c.toNat ∧ c.toNat ≤ 90 then c + 32 else c
def foldS (s : Str) : Str := (joinS (words s) [32]).map lowB
def low1 (J : Str) (i : Nat) : Str := (J.take i).map lowB ++ J.drop i
theorem low1_len (J : Str) (i : Nat) : (low1 J i).length = J.length := by simp [low1]; omega
theorem low1_get {J : Str} {i : Nat} (h : i < J.length) : (low1 J i).getD i default = J.getD i 0 := by
  unfold low1
  rw [List.getD_eq_getElem?_getD, List.getElem?_append_right (by rw [List.length_map, List.length_take]; omega)]
  simp [List.getD_eq_getElem?_getD, h, Nat.min_eq_left (Nat.le_of_lt h)]
theorem low1_set {J : Str} {i : Nat} (h : i < J.length) : (low1 J i).set i (lowB (J.getD i 0)) = low1 J (i + 1) := by
  unfold low1
  rw [List.set_append_right _ _ (by rw [List.length_map, List.length_take]; omega), take_succ_getD J i 0 h, List.map_append, List.append_assoc]
  congr 1
  rw [List.length_map, List.length_take, Nat.min_eq_left (by omega), Nat.sub_self, drop_cons h]
  rfl
theorem low1_stay {J : Str} {i : Nat} (h : i < J.length) (hb : lowB (J.getD i 0) = J.getD i 0) : low1 J i = low1 J (i + 1) := by
  rw [← low1_set h, hb]
  apply List.ext_getElem?
  intro j
  rw [List.getElem?_set]
  split
  · rename_i e; subst e
    rw [if_pos (by rw [low1_len]; exact h)]
    have := low1_get h
    rw [List.getD_eq_getElem?_getD, List.getElem?_eq_getElem (by rw [low1_len]; exact h)] at this
    rw [List.getElem?_eq_getElem (by rw [low1_len]; exact h)]
    simpa using this
  · rfl

theorem words_bound : ∀ (s cur : Str), (joinS (wordsA s cur) [32]).length ≤ s.length + cur.length ∧ (wordsA s cur).length ≤ s.length + cur.length
  | [], cur => by
    unfold wordsA
    split
    · simp [joinS, Lib.join_nil]
    · rename_i h
      have : 0 < cur.length := List.length_pos_iff.2 h
      simp [joinS, Lib.join_one]; omega
  | c :: r, cur => by
    unfold wordsA
    split
    · split
      · have := words_bound r []; simp at this ⊢; omega
      · rename_i h
        have h0 : 0 < cur.length := List.length_pos_iff.2 h
        obtain ⟨h1, h2⟩ := words_bound r []
        have h3 : (joinS (cur :: wordsA r []) [32]).length ≤ cur.length + 1 + (joinS (wordsA r []) [32]).length := by
          cases wordsA r [] with
          | nil => simp [joinS, Lib.join_one]; omega
          | cons x q =>
            have := Lib.join_cons x q [32]
            unfold joinS
            rw [Lib.join_cons, this]
            simp [Lib.joinTail]; omega
        simp at h1 h2 ⊢; omega
    · have := words_bound r (cur ++ [c]); simp at this ⊢; omega

theorem c34 (s : Str) (hs : s.length ≤ 1000000000000) : PCall Try.prog 34 [.d (.str s)] fun x => x = .d (.str (foldS s)) := by
  obtain ⟨hj, hw⟩ := words_bound s []
  rw [List.length_nil, Nat.add_zero] at hj hw
  have hj2 : (joinS (words s) [32]).length ≤ s.length := hj
  have hw2 : (words s).length ≤ s.length := hw
  refine PCall.intro Try.tabOk Try.f34 _ Try.func34 rfl (by decide) rfl fun z => ?_
  repeat' first
    | (with_reducible refine AW.seq ?_)
    | ((with_reducible refine AW.region Try.tabOk ?_); (conv => whnf))
    | ((with_reducible refine AW.draw Try.tabOk Try.mixed ?_ ?_); (focus rfl); (conv => whnf))
    | ((with_reducible refine AW.ret ?_); (conv => whnf))
    | ((with_reducible refine AW.block ?_))
    | (with_reducible refine AW.scope ?_)
    | ((with_reducible refine AW.label ?_); (conv => whnf))
    | ((with_reducible refine AW.exit ?_); (conv => whnf))
    | ((with_reducible refine AW.skip ?_); (conv => whnf))
    | ((with_reducible refine AW.cond ?_); (conv => whnf))
    | ((with_reducible refine Own2.data ?_); (conv => whnf))
    | ((with_reducible refine ACall.id ?_); (refine PCall.call (by first | exact c68 s hs | exact c70 (words s) [32] (by omega) (by omega)) rfl ?_); (intro x hx; first | subst hx | (obtain ⟨l_, rfl, hl_⟩ := hx.out)); (conv => whnf))
    | ((with_reducible refine ACall.freeze rfl ?_); (conv => whnf))
    | (refine ⟨true, _, rfl, ?_⟩; (conv => whnf))
    | (refine ⟨false, .nilp, rfl, ?_⟩; (conv => whnf))
    | (refine ⟨_, _, by first | exact c68 s hs | exact c70 (words s) [32] (by omega) (by omega), ?_⟩; (conv => whnf))
    | ((with_reducible apply Or.inl); (refine ⟨rfl, rfl, ?_⟩); (conv => whnf))
    | (refine ⟨_, ⟨rfl, rfl⟩, ?_⟩; (conv => whnf))
    | (refine ⟨_, ⟨rfl, getM (by first | omega | (simp; omega))⟩, ?_⟩; (conv => whnf))
    | ((with_reducible apply Or.inl); apply Exists.intro; apply And.intro; (focus (intro hg; (conv => whnf); (repeat' first | (with_reducible exact ⟨rfl, rfl⟩) | ((with_reducible refine Own2.data ?_); (conv => whnf)) | (refine ⟨true, _, rfl, ?_⟩; (conv => whnf)) | (refine ⟨false, .nilp, rfl, ?_⟩; (conv => whnf)) | (refine ⟨_, _, by first | exact c68 s hs | exact c70 (words s) [32] (by omega) (by omega), ?_⟩; (conv => whnf)) | ((with_reducible apply Or.inl); (refine ⟨rfl, rfl, ?_⟩); (conv => whnf)) | ((with_reducible apply Or.inl); (with_reducible apply And.intro); (focus (simp only [rng]; omega)); (conv => whnf)) | (refine ⟨by first | omega | (simp at hg ⊢; omega) | (simp_all; first | done | fail), ?_⟩; (conv => whnf)) | ((with_reducible refine ACall.id ?_); (refine PCall.call (by first | exact c68 s hs | exact c70 (words s) [32] (by omega) (by omega)) rfl ?_); (intro x hx; first | subst hx | (obtain ⟨l_, rfl, hl_⟩ := hx.out)); (conv => whnf)) | (intro hlen; (conv => whnf))); done)); (conv => whnf))
    | (apply Exists.intro; apply And.intro; (focus (first | (intro hg; (conv => whnf)) | (conv => whnf)); (repeat' first | (with_reducible exact ⟨rfl, rfl⟩) | ((with_reducible refine Own2.data ?_); (conv => whnf)) | (refine ⟨true, _, rfl, ?_⟩; (conv => whnf)) | (refine ⟨false, .nilp, rfl, ?_⟩; (conv => whnf)) | (refine ⟨_, _, by first | exact c68 s hs | exact c70 (words s) [32] (by omega) (by omega), ?_⟩; (conv => whnf)) | ((with_reducible apply Or.inl); (refine ⟨rfl, rfl, ?_⟩); (conv => whnf)) | ((with_reducible apply Or.inl); (with_reducible apply And.intro); (focus (simp only [rng]; omega)); (conv => whnf)) | (refine ⟨by first | omega | (simp at hg ⊢; omega) | (simp_all; first | done | fail), ?_⟩; (conv => whnf)) | ((with_reducible refine ACall.id ?_); (refine PCall.call (by first | exact c68 s hs | exact c70 (words s) [32] (by omega) (by omega)) rfl ?_); (intro x hx; first | subst hx | (obtain ⟨l_, rfl, hl_⟩ := hx.out)); (conv => whnf)) | (intro hlen; (conv => whnf))); done); (conv => whnf))
    | ((with_reducible apply Or.inl); (with_reducible apply And.intro); (focus (simp only [rng]; omega)); (conv => whnf))
    | ((with_reducible apply Or.inr); (with_reducible apply And.intro) <;> (intro hb; (try simp at hb); (try (exfalso; first | omega | (simp_all; first | done | fail))); (try (conv => whnf))))
    | ((with_reducible apply And.intro); (focus (first | omega | (exact True.intro) | (simp; omega) | (exact Nat.le_of_ble_eq_true rfl) | (exact ⟨rfl, Nat.le_of_ble_eq_true rfl⟩) | (exact ⟨Nat.le_of_ble_eq_true rfl, Nat.le_of_ble_eq_true rfl⟩) | (intro hg; first | (simp; first | done | fail) | (simp at hg ⊢; exact hg) | (simp at hg; exact hg) | exact hg))); (conv => whnf))
    | ((with_reducible apply And.intro) <;> (intro hb; (try simp at hb); (try (exfalso; first | omega | (simp_all; first | done | fail))); (try (conv => whnf))))
    | (intro hlen; (conv => whnf))
    | ((with_reducible refine And.intro (Side.out ?_) ?_); rotate_left; (conv => whnf); rotate_right)
  obtain ⟨J, hJ⟩ : ∃ J, J = joinS (words s) [32] := ⟨_, rfl⟩
  have hJl : J.length ≤ s.length := by rw [hJ]; exact hj2
  refine AW.loopS (X := Nat) [12, 4] [] (fun i => [(14, .d (.int .i64 (i : Int))), (13, .d (.int .i64 (J.length : Int)))]) (fun i => [(0, .row 5 1 ((low1 J i).map byteD) 1)]) (fun _ => 1)
    (fun i => i ≤ J.length) (fun i => J.length - i) 0 (Nat.zero_le _) (fun _ _ => rfl) ⟨rfl, rfl, rfl, ⟨OLe.of (by show AObj.row 5 1 ((joinS (words s) [32]).map byteD) 1 = _; rw [hJ]; simp [low1]), trivial⟩, ⟨AV.le_refl _, AV.le_of_eq (by show AV.d (.int .i64 (((joinS (words s) [32]).map byteD).length : Int)) = _; rw [hJ]; simp), AV.le_refl _, AV.le_refl _, trivial⟩⟩ ?_
  intro i hi
  have hl1 := low1_len J i
  have hu := (((low1 J i).getD i default)).toNat_lt
  have hu2 : ((low1 J i).getD (i : Int).toNat default).toNat < 256 := hu
  repeat' first
    | (with_reducible refine AW.seq ?_)
    | ((with_reducible refine AW.region Try.tabOk ?_); (conv => whnf))
    | ((with_reducible refine AW.draw Try.tabOk Try.mixed ?_ ?_); (focus rfl); (conv => whnf))
    | ((with_reducible refine AW.ret ?_); (conv => whnf))
    | ((with_reducible refine AW.block ?_))
    | (with_reducible refine AW.scope ?_)
    | ((with_reducible refine AW.label ?_); (conv => whnf))
    | ((with_reducible refine AW.exit ?_); (conv => whnf))
    | ((with_reducible refine AW.skip ?_); (conv => whnf))
    | ((with_reducible refine AW.cond ?_); (conv => whnf))
    | ((with_reducible refine Own2.data ?_); (conv => whnf))
    | ((with_reducible refine ACall.id ?_); (refine PCall.call (by first | exact c69 _) rfl ?_); (intro x hx; first | subst hx | (obtain ⟨l_, rfl, hl_⟩ := hx.out)); (conv => whnf))
    | ((with_reducible refine ACall.freeze rfl ?_); (conv => whnf))
    | (refine ⟨true, _, rfl, ?_⟩; (conv => whnf))
    | (refine ⟨false, .nilp, rfl, ?_⟩; (conv => whnf))
    | (refine ⟨_, _, by first | exact c69 _, ?_⟩; (conv => whnf))
    | ((with_reducible apply Or.inl); (refine ⟨rfl, rfl, ?_⟩); (conv => whnf))
    | (refine ⟨_, ⟨rfl, rfl⟩, ?_⟩; (conv => whnf))
    | (refine ⟨_, ⟨rfl, getM (by first | omega | (simp; omega))⟩, ?_⟩; (conv => whnf))
    | ((with_reducible apply Or.inl); apply Exists.intro; apply And.intro; (focus (intro hg; (conv => whnf); (repeat' first | (with_reducible exact ⟨rfl, rfl⟩) | ((with_reducible refine Own2.data ?_); (conv => whnf)) | (refine ⟨true, _, rfl, ?_⟩; (conv => whnf)) | (refine ⟨false, .nilp, rfl, ?_⟩; (conv => whnf)) | (refine ⟨_, _, by first | exact c69 _, ?_⟩; (conv => whnf)) | ((with_reducible apply Or.inl); (refine ⟨rfl, rfl, ?_⟩); (conv => whnf)) | ((with_reducible apply Or.inl); (with_reducible apply And.intro); (focus (simp only [rng]; omega)); (conv => whnf)) | (refine ⟨by first | omega | (simp at hg ⊢; omega) | (simp_all; first | done | fail), ?_⟩; (conv => whnf)) | ((with_reducible refine ACall.id ?_); (refine PCall.call (by first | exact c69 _) rfl ?_); (intro x hx; first | subst hx | (obtain ⟨l_, rfl, hl_⟩ := hx.out)); (conv => whnf)) | (intro hlen; (conv => whnf))); done)); (conv => whnf))
    | (apply Exists.intro; apply And.intro; (focus (first | (intro hg; (conv => whnf)) | (conv => whnf)); (repeat' first | (with_reducible exact ⟨rfl, rfl⟩) | ((with_reducible refine Own2.data ?_); (conv => whnf)) | (refine ⟨true, _, rfl, ?_⟩; (conv => whnf)) | (refine ⟨false, .nilp, rfl, ?_⟩; (conv => whnf)) | (refine ⟨_, _, by first | exact c69 _, ?_⟩; (conv => whnf)) | ((with_reducible apply Or.inl); (refine ⟨rfl, rfl, ?_⟩); (conv => whnf)) | ((with_reducible apply Or.inl); (with_reducible apply And.intro); (focus (simp only [rng]; omega)); (conv => whnf)) | (refine ⟨by first | omega | (simp at hg ⊢; omega) | (simp_all; first | done | fail), ?_⟩; (conv => whnf)) | ((with_reducible refine ACall.id ?_); (refine PCall.call (by first | exact c69 _) rfl ?_); (intro x hx; first | subst hx | (obtain ⟨l_, rfl, hl_⟩ := hx.out)); (conv => whnf)) | (intro hlen; (conv => whnf))); done); (conv => whnf))
    | ((with_reducible apply Or.inl); (with_reducible apply And.intro); (focus (simp only [rng]; omega)); (conv => whnf))
    | ((with_reducible apply Or.inr); (with_reducible apply And.intro) <;> (intro hb; (try simp at hb); (try (exfalso; first | omega | (simp_all; first | done | fail))); (try (conv => whnf))))
    | ((with_reducible apply And.intro); (focus (first | omega | (exact True.intro) | (simp; omega) | (exact Nat.le_of_ble_eq_true rfl) | (exact ⟨rfl, Nat.le_of_ble_eq_true rfl⟩) | (exact ⟨Nat.le_of_ble_eq_true rfl, Nat.le_of_ble_eq_true rfl⟩) | (intro hg; first | (simp; first | done | fail) | (simp at hg ⊢; exact hg) | (simp at hg; exact hg) | exact hg))); (conv => whnf))
    | ((with_reducible apply And.intro) <;> (intro hb; (try simp at hb); (try (exfalso; first | omega | (simp_all; first | done | fail))); (try (conv => whnf))))
    | (intro hlen; (conv => whnf))
    | ((with_reducible refine And.intro (Side.out ?_) ?_); rotate_left; (conv => whnf); rotate_right)
  · have hit : i < J.length := by assumption
    have hb : 65 ≤ ((((low1 J i)[i]?.getD default).toNat : Nat) : Int) ∧ ((((low1 J i)[i]?.getD default).toNat : Nat) : Int) ≤ 90 := by assumption
    rw [← List.getD_eq_getElem?_getD] at hb
    have hb2 : 65 ≤ ((((low1 J i).getD (i : Int).toNat default).toNat : Nat) : Int) ∧ ((((low1 J i).getD (i : Int).toNat default).toNat : Nat) : Int) ≤ 90 := hb
    refine .inl ⟨by simp only [rng]; omega, ?_⟩
    (conv => whnf)
    repeat' first
      | (with_reducible refine AW.seq ?_)
      | ((with_reducible refine AW.region Try.tabOk ?_); (conv => whnf))
      | ((with_reducible refine AW.draw Try.tabOk Try.mixed ?_ ?_); (focus rfl); (conv => whnf))
      | ((with_reducible refine AW.ret ?_); (conv => whnf))
      | ((with_reducible refine AW.block ?_))
      | (with_reducible refine AW.scope ?_)
      | ((with_reducible refine AW.label ?_); (conv => whnf))
      | ((with_reducible refine AW.exit ?_); (conv => whnf))
      | ((with_reducible refine AW.skip ?_); (conv => whnf))
      | ((with_reducible refine AW.cond ?_); (conv => whnf))
      | ((with_reducible refine Own2.data ?_); (conv => whnf))
      | ((with_reducible refine ACall.id ?_); (refine PCall.call (by first | exact c69 _) rfl ?_); (intro x hx; first | subst hx | (obtain ⟨l_, rfl, hl_⟩ := hx.out)); (conv => whnf))
      | ((with_reducible refine ACall.freeze rfl ?_); (conv => whnf))
      | (refine ⟨true, _, rfl, ?_⟩; (conv => whnf))
      | (refine ⟨false, .nilp, rfl, ?_⟩; (conv => whnf))
      | (refine ⟨_, _, by first | exact c69 _, ?_⟩; (conv => whnf))
      | ((with_reducible apply Or.inl); (refine ⟨rfl, rfl, ?_⟩); (conv => whnf))
      | (refine ⟨_, ⟨rfl, rfl⟩, ?_⟩; (conv => whnf))
      | (refine ⟨_, ⟨rfl, getM (by first | omega | (simp; omega))⟩, ?_⟩; (conv => whnf))
      | ((with_reducible apply Or.inl); apply Exists.intro; apply And.intro; (focus (intro hg; (conv => whnf); (repeat' first | (with_reducible exact ⟨rfl, rfl⟩) | ((with_reducible refine Own2.data ?_); (conv => whnf)) | (refine ⟨true, _, rfl, ?_⟩; (conv => whnf)) | (refine ⟨false, .nilp, rfl, ?_⟩; (conv => whnf)) | (refine ⟨_, _, by first | exact c69 _, ?_⟩; (conv => whnf)) | ((with_reducible apply Or.inl); (refine ⟨rfl, rfl, ?_⟩); (conv => whnf)) | ((with_reducible apply Or.inl); (with_reducible apply And.intro); (focus (simp only [rng]; omega)); (conv => whnf)) | (refine ⟨by first | omega | (simp at hg ⊢; omega) | (simp_all; first | done | fail), ?_⟩; (conv => whnf)) | ((with_reducible refine ACall.id ?_); (refine PCall.call (by first | exact c69 _) rfl ?_); (intro x hx; first | subst hx | (obtain ⟨l_, rfl, hl_⟩ := hx.out)); (conv => whnf)) | (intro hlen; (conv => whnf))); done)); (conv => whnf))
      | (apply Exists.intro; apply And.intro; (focus (first | (intro hg; (conv => whnf)) | (conv => whnf)); (repeat' first | (with_reducible exact ⟨rfl, rfl⟩) | ((with_reducible refine Own2.data ?_); (conv => whnf)) | (refine ⟨true, _, rfl, ?_⟩; (conv => whnf)) | (refine ⟨false, .nilp, rfl, ?_⟩; (conv => whnf)) | (refine ⟨_, _, by first | exact c69 _, ?_⟩; (conv => whnf)) | ((with_reducible apply Or.inl); (refine ⟨rfl, rfl, ?_⟩); (conv => whnf)) | ((with_reducible apply Or.inl); (with_reducible apply And.intro); (focus (simp only [rng]; omega)); (conv => whnf)) | (refine ⟨by first | omega | (simp at hg ⊢; omega) | (simp_all; first | done | fail), ?_⟩; (conv => whnf)) | ((with_reducible refine ACall.id ?_); (refine PCall.call (by first | exact c69 _) rfl ?_); (intro x hx; first | subst hx | (obtain ⟨l_, rfl, hl_⟩ := hx.out)); (conv => whnf)) | (intro hlen; (conv => whnf))); done); (conv => whnf))
      | ((with_reducible apply Or.inl); (with_reducible apply And.intro); (focus (simp only [rng]; omega)); (conv => whnf))
      | ((with_reducible apply Or.inr); (with_reducible apply And.intro) <;> (intro hb; (try simp at hb); (try (exfalso; first | omega | (simp_all; first | done | fail))); (try (conv => whnf))))
      | ((with_reducible apply And.intro); (focus (first | omega | (exact True.intro) | (simp; omega) | (exact Nat.le_of_ble_eq_true rfl) | (exact ⟨rfl, Nat.le_of_ble_eq_true rfl⟩) | (exact ⟨Nat.le_of_ble_eq_true rfl, Nat.le_of_ble_eq_true rfl⟩) | (intro hg; first | (simp; first | done | fail) | (simp at hg ⊢; exact hg) | (simp at hg; exact hg) | exact hg))); (conv => whnf))
      | ((with_reducible apply And.intro) <;> (intro hb; (try simp at hb); (try (exfalso; first | omega | (simp_all; first | done | fail))); (try (conv => whnf))))
      | (intro hlen; (conv => whnf))
      | ((with_reducible refine And.intro (Side.out ?_) ?_); rotate_left; (conv => whnf); rotate_right)
    refine .mk (i + 1) hit (by show J.length - (i + 1) < J.length - i; omega) ⟨rfl, rfl, rfl, ⟨OLe.of ?_, trivial⟩, ⟨AV.le_refl _, AV.le_refl _, AV.le_refl _, AV.le_refl _, trivial⟩, rfl⟩
    rw [low1_get hit] at hb
    show AObj.row 5 1 (((low1 J i).map byteD).set (i : Int).toNat (.int .u8 (((((low1 J i).getD i default).toNat : Nat) : Int) + 97 - 65))) 1 = AObj.row 5 1 ((low1 J (i + 1)).map byteD) 1
    rw [low1_get hit, Int.toNat_natCast, ← low1_set hit, List.map_set]
    have : byteD (lowB (J.getD i 0)) = .int .u8 (((J.getD i 0).toNat : Int) + 97 - 65) := by
      unfold lowB byteD
      rw [if_pos (by omega)]
      congr 1
      rw [UInt8.toNat_add]
      have : (32 : UInt8).toNat = 32 := rfl
      rw [this, Nat.mod_eq_of_lt (by omega)]; omega
    rw [this]
  · have hit : i < J.length := by assumption
    have hb : 65 ≤ ((((low1 J i)[i]?.getD default).toNat : Nat) : Int) → 90 < ((((low1 J i)[i]?.getD default).toNat : Nat) : Int) := by assumption
    rw [← List.getD_eq_getElem?_getD, low1_get hit] at hb
    refine .mk (i + 1) hit (by show J.length - (i + 1) < J.length - i; omega) ⟨rfl, rfl, rfl, ⟨OLe.of ?_, trivial⟩, ⟨AV.le_refl _, AV.le_refl _, AV.le_refl _, AV.le_refl _, trivial⟩, rfl⟩
    show AObj.row 5 1 ((low1 J i).map byteD) 1 = _
    rw [low1_stay hit (by unfold lowB; rw [if_neg (by omega)])]
  · have he : i = J.length := by omega
    refine ⟨?_⟩
    rw [he, foldS, ← hJ]
    simp [low1]
  · refine ⟨?_⟩
    rw [foldS, ← hJ, List.length_map]
    simp only [maxLen]; omega
end Go.Proofs
end
section
/- Contracts: finding names. -/
namespace Go.Proofs
open Go.Pm
set_option maxRecDepth 100000
set_option maxHeartbeats 4000000

def upB (c : UInt8) : UInt8 := if 97 ≤ c.toNat ∧ c.toNat ≤ 122 then c - 32 else c
def up1 (c : UInt8) : Str := if upB c = 32 then [upB c, 32] else [upB c]
def raisedS (s : Str) : Str := 32 :: s.flatMap up1 ++ [10]
def up2 (s : Str) (i : Nat) : Str := 32 :: (s.take i).flatMap up1
theorem up2_step {s : Str} {i : Nat} (h : i < s.length) : up2 s (i + 1) = up2 s i ++ up1 (s.getD i 0) := by
  unfold up2
  rw [take_succ_getD s i 0 h, List.flatMap_append]; simp
theorem up2_len (s : Str) (i : Nat) : (up2 s i).length ≤ 1 + 2 * i := by
  unfold up2
  have : ∀ l : Str, (l.flatMap up1).length ≤ 2 * l.length := by
    intro l
    induction l with
    | nil => simp
    | cons c r ih =>
      rw [List.flatMap_cons, List.length_append, List.length_cons]
      have : (up1 c).length ≤ 2 := by unfold up1; split <;> simp
      omega
  have h := this (s.take i)
  rw [List.length_take] at h
  simp only [List.length_cons]; omega
theorem c35 (s : Str) (hs : s.length ≤ 1000000000000) : PCall Try.prog 35 [.d (.str s)] fun x => x = .d (.str (raisedS s)) := by
  refine PCall.intro Try.tabOk Try.f35 _ Try.func35 rfl (by decide) rfl fun z => ?_
  repeat' first
    | (with_reducible refine AW.seq ?_)
    | ((with_reducible refine AW.region Try.tabOk ?_); (conv => whnf))
    | ((with_reducible refine AW.draw Try.tabOk Try.mixed ?_ ?_); (focus rfl); (conv => whnf))
    | ((with_reducible refine AW.ret ?_); (conv => whnf))
    | ((with_reducible refine AW.block ?_))
    | (with_reducible refine AW.scope ?_)
    | ((with_reducible refine AW.label ?_); (conv => whnf))
    | ((with_reducible refine AW.exit ?_); (conv => whnf))
    | ((with_reducible refine AW.skip ?_); (conv => whnf))
    | ((with_reducible refine AW.cond ?_); (conv => whnf))
    | ((with_reducible refine Own2.own ?_); (conv => whnf))
    | ((with_reducible refine ACall.id ?_); (refine PCall.call (by first | fail) rfl ?_); (intro x hx; first | subst hx | (obtain ⟨l_, rfl, hl_⟩ := hx.out)); (conv => whnf))
    | ((with_reducible refine ACall.freeze rfl ?_); (conv => whnf))
    | (refine ⟨true, _, rfl, ?_⟩; (conv => whnf))
    | (refine ⟨false, .nilp, rfl, ?_⟩; (conv => whnf))
    | (refine ⟨_, _, by first | fail, ?_⟩; (conv => whnf))
    | ((with_reducible apply Or.inl); (refine ⟨rfl, rfl, ?_⟩); (conv => whnf))
    | (refine ⟨_, ⟨rfl, rfl⟩, ?_⟩; (conv => whnf))
    | (refine ⟨_, ⟨rfl, getM (by first | omega | (simp; omega))⟩, ?_⟩; (conv => whnf))
    | ((with_reducible apply Or.inl); apply Exists.intro; apply And.intro; (focus (intro hg; (conv => whnf); (repeat' first | (with_reducible exact ⟨rfl, rfl⟩) | ((with_reducible refine Own2.own ?_); (conv => whnf)) | (refine ⟨true, _, rfl, ?_⟩; (conv => whnf)) | (refine ⟨false, .nilp, rfl, ?_⟩; (conv => whnf)) | (refine ⟨_, _, by first | fail, ?_⟩; (conv => whnf)) | ((with_reducible apply Or.inl); (refine ⟨rfl, rfl, ?_⟩); (conv => whnf)) | ((with_reducible apply Or.inl); (with_reducible apply And.intro); (focus (simp only [rng]; omega)); (conv => whnf)) | (refine ⟨by first | omega | (simp at hg ⊢; omega) | (simp_all; first | done | fail), ?_⟩; (conv => whnf)) | ((with_reducible refine ACall.id ?_); (refine PCall.call (by first | fail) rfl ?_); (intro x hx; first | subst hx | (obtain ⟨l_, rfl, hl_⟩ := hx.out)); (conv => whnf)) | (intro hlen; (conv => whnf))); done)); (conv => whnf))
    | (apply Exists.intro; apply And.intro; (focus (first | (intro hg; (conv => whnf)) | (conv => whnf)); (repeat' first | (with_reducible exact ⟨rfl, rfl⟩) | ((with_reducible refine Own2.own ?_); (conv => whnf)) | (refine ⟨true, _, rfl, ?_⟩; (conv => whnf)) | (refine ⟨false, .nilp, rfl, ?_⟩; (conv => whnf)) | (refine ⟨_, _, by first | fail, ?_⟩; (conv => whnf)) | ((with_reducible apply Or.inl); (refine ⟨rfl, rfl, ?_⟩); (conv => whnf)) | ((with_reducible apply Or.inl); (with_reducible apply And.intro); (focus (simp only [rng]; omega)); (conv => whnf)) | (refine ⟨by first | omega | (simp at hg ⊢; omega) | (simp_all; first | done | fail), ?_⟩; (conv => whnf)) | ((with_reducible refine ACall.id ?_); (refine PCall.call (by first | fail) rfl ?_); (intro x hx; first | subst hx | (obtain ⟨l_, rfl, hl_⟩ := hx.out)); (conv => whnf)) | (intro hlen; (conv => whnf))); done); (conv => whnf))
    | ((with_reducible apply Or.inl); (with_reducible apply And.intro); (focus (simp only [rng]; omega)); (conv => whnf))
    | ((with_reducible apply Or.inr); (with_reducible apply And.intro) <;> (intro hb; (try simp at hb); (try (exfalso; first | omega | (simp_all; first | done | fail))); (try (conv => whnf))))
    | ((with_reducible apply And.intro); (focus (first | omega | (exact True.intro) | (simp; omega) | (exact Nat.le_of_ble_eq_true rfl) | (exact ⟨rfl, Nat.le_of_ble_eq_true rfl⟩) | (exact ⟨Nat.le_of_ble_eq_true rfl, Nat.le_of_ble_eq_true rfl⟩) | (intro hg; first | (simp; first | done | fail) | (simp at hg ⊢; exact hg) | (simp at hg; exact hg) | exact hg))); (conv => whnf))
    | ((with_reducible apply And.intro) <;> (intro hb; (try simp at hb); (try (exfalso; first | omega | (simp_all; first | done | fail))); (try (conv => whnf))))
    | (intro hlen; (conv => whnf))
    | ((with_reducible refine And.intro (Side.out ?_) ?_); rotate_left; (conv => whnf); rotate_right)
  refine AW.loopS (X := Nat × Nat) [0] [] (fun x => [(4, .d (.int .i64 (x.1 : Int))), (3, .own 0 (x.2 + 1) 1)]) (fun x => [(0, .row 5 1 ((up2 s x.1).map byteD) (x.2 + 1))]) (fun _ => 1)
    (fun x => x.1 ≤ s.length) (fun x => s.length - x.1) (0, 0) (Nat.zero_le _) (fun _ _ => rfl) (by refine ⟨rfl, rfl, rfl, ?_, ?_⟩ <;> repeat' (first | exact trivial | exact OLe.refl _ | exact AV.le_refl _ | apply And.intro)) ?_
  intro ⟨i, v⟩ hi
  dsimp only at hi
  have hl := up2_len s i
  have hu := (s.getD i 0).toNat_lt
  have hu2 : (s.getD (i : Int).toNat 0).toNat < 256 := hu
  repeat' first
    | (with_reducible refine AW.seq ?_)
    | ((with_reducible refine AW.region Try.tabOk ?_); (conv => whnf))
    | ((with_reducible refine AW.draw Try.tabOk Try.mixed ?_ ?_); (focus rfl); (conv => whnf))
    | ((with_reducible refine AW.ret ?_); (conv => whnf))
    | ((with_reducible refine AW.block ?_))
    | (with_reducible refine AW.scope ?_)
    | ((with_reducible refine AW.label ?_); (conv => whnf))
    | ((with_reducible refine AW.exit ?_); (conv => whnf))
    | ((with_reducible refine AW.skip ?_); (conv => whnf))
    | ((with_reducible refine AW.cond ?_); (conv => whnf))
    | ((with_reducible refine Own2.own ?_); (conv => whnf))
    | ((with_reducible refine ACall.id ?_); (refine PCall.call (by first | fail) rfl ?_); (intro x hx; first | subst hx | (obtain ⟨l_, rfl, hl_⟩ := hx.out)); (conv => whnf))
    | ((with_reducible refine ACall.freeze rfl ?_); (conv => whnf))
    | (refine ⟨true, _, rfl, ?_⟩; (conv => whnf))
    | (refine ⟨false, .nilp, rfl, ?_⟩; (conv => whnf))
    | (refine ⟨_, _, by first | fail, ?_⟩; (conv => whnf))
    | ((with_reducible apply Or.inl); (refine ⟨rfl, rfl, ?_⟩); (conv => whnf))
    | (refine ⟨_, ⟨rfl, rfl⟩, ?_⟩; (conv => whnf))
    | (refine ⟨_, ⟨rfl, getM (by first | omega | (simp; omega))⟩, ?_⟩; (conv => whnf))
    | ((with_reducible apply Or.inl); apply Exists.intro; apply And.intro; (focus (intro hg; (conv => whnf); (repeat' first | (with_reducible exact ⟨rfl, rfl⟩) | ((with_reducible refine Own2.own ?_); (conv => whnf)) | (refine ⟨true, _, rfl, ?_⟩; (conv => whnf)) | (refine ⟨false, .nilp, rfl, ?_⟩; (conv => whnf)) | (refine ⟨_, _, by first | fail, ?_⟩; (conv => whnf)) | ((with_reducible apply Or.inl); (refine ⟨rfl, rfl, ?_⟩); (conv => whnf)) | ((with_reducible apply Or.inl); (with_reducible apply And.intro); (focus (simp only [rng]; omega)); (conv => whnf)) | (refine ⟨by first | omega | (simp at hg ⊢; omega) | (simp_all; first | done | fail), ?_⟩; (conv => whnf)) | ((with_reducible refine ACall.id ?_); (refine PCall.call (by first | fail) rfl ?_); (intro x hx; first | subst hx | (obtain ⟨l_, rfl, hl_⟩ := hx.out)); (conv => whnf)) | (intro hlen; (conv => whnf))); done)); (conv => whnf))
    | (apply Exists.intro; apply And.intro; (focus (first | (intro hg; (conv => whnf)) | (conv => whnf)); (repeat' first | (with_reducible exact ⟨rfl, rfl⟩) | ((with_reducible refine Own2.own ?_); (conv => whnf)) | (refine ⟨true, _, rfl, ?_⟩; (conv => whnf)) | (refine ⟨false, .nilp, rfl, ?_⟩; (conv => whnf)) | (refine ⟨_, _, by first | fail, ?_⟩; (conv => whnf)) | ((with_reducible apply Or.inl); (refine ⟨rfl, rfl, ?_⟩); (conv => whnf)) | ((with_reducible apply Or.inl); (with_reducible apply And.intro); (focus (simp only [rng]; omega)); (conv => whnf)) | (refine ⟨by first | omega | (simp at hg ⊢; omega) | (simp_all; first | done | fail), ?_⟩; (conv => whnf)) | ((with_reducible refine ACall.id ?_); (refine PCall.call (by first | fail) rfl ?_); (intro x hx; first | subst hx | (obtain ⟨l_, rfl, hl_⟩ := hx.out)); (conv => whnf)) | (intro hlen; (conv => whnf))); done); (conv => whnf))
    | ((with_reducible apply Or.inl); (with_reducible apply And.intro); (focus (simp only [rng]; omega)); (conv => whnf))
    | ((with_reducible apply Or.inr); (with_reducible apply And.intro) <;> (intro hb; (try simp at hb); (try (exfalso; first | omega | (simp_all; first | done | fail))); (try (conv => whnf))))
    | ((with_reducible apply And.intro); (focus (first | omega | (exact True.intro) | (simp; omega) | (exact Nat.le_of_ble_eq_true rfl) | (exact ⟨rfl, Nat.le_of_ble_eq_true rfl⟩) | (exact ⟨Nat.le_of_ble_eq_true rfl, Nat.le_of_ble_eq_true rfl⟩) | (intro hg; first | (simp; first | done | fail) | (simp at hg ⊢; exact hg) | (simp at hg; exact hg) | exact hg))); (conv => whnf))
    | ((with_reducible apply And.intro) <;> (intro hb; (try simp at hb); (try (exfalso; first | omega | (simp_all; first | done | fail))); (try (conv => whnf))))
    | (intro hlen; (conv => whnf))
    | ((with_reducible refine And.intro (Side.out ?_) ?_); rotate_left; (conv => whnf); rotate_right)
  · have hit : i < s.length := by assumption
    have hb : 97 ≤ ((s[i]?.getD 0).toNat : Int) ∧ ((s[i]?.getD 0).toNat : Int) ≤ 122 := by assumption
    rw [← List.getD_eq_getElem?_getD] at hb
    have hb3 : 97 ≤ ((s.getD (i : Int).toNat 0).toNat : Int) ∧ ((s.getD (i : Int).toNat 0).toNat : Int) ≤ 122 := hb
    have hub : ((upB (s.getD i 0)).toNat : Int) = ((s.getD i 0).toNat : Int) - 32 := by
      unfold upB
      rw [if_pos (by omega), UInt8.toNat_sub_of_le _ _ (by show 32 ≤ (s.getD i 0).toNat; omega)]
      show (((s.getD i 0).toNat - 32 : Nat) : Int) = _
      omega
    have hup : up1 (s.getD i 0) = [upB (s.getD i 0)] := by
      unfold up1
      rw [if_neg (fun h => by rw [h] at hub; have : ((32 : UInt8).toNat : Int) = 32 := rfl; omega)]
    refine .inl ⟨by simp only [rng]; omega, ?_⟩
    (conv => whnf)
    repeat' first
      | (with_reducible refine AW.seq ?_)
      | ((with_reducible refine AW.region Try.tabOk ?_); (conv => whnf))
      | ((with_reducible refine AW.draw Try.tabOk Try.mixed ?_ ?_); (focus rfl); (conv => whnf))
      | ((with_reducible refine AW.ret ?_); (conv => whnf))
      | ((with_reducible refine AW.block ?_))
      | (with_reducible refine AW.scope ?_)
      | ((with_reducible refine AW.label ?_); (conv => whnf))
      | ((with_reducible refine AW.exit ?_); (conv => whnf))
      | ((with_reducible refine AW.skip ?_); (conv => whnf))
      | ((with_reducible refine AW.cond ?_); (conv => whnf))
      | ((with_reducible refine Own2.own ?_); (conv => whnf))
      | ((with_reducible refine ACall.id ?_); (refine PCall.call (by first | fail) rfl ?_); (intro x hx; first | subst hx | (obtain ⟨l_, rfl, hl_⟩ := hx.out)); (conv => whnf))
      | ((with_reducible refine ACall.freeze rfl ?_); (conv => whnf))
      | (refine ⟨true, _, rfl, ?_⟩; (conv => whnf))
      | (refine ⟨false, .nilp, rfl, ?_⟩; (conv => whnf))
      | (refine ⟨_, _, by first | fail, ?_⟩; (conv => whnf))
      | ((with_reducible apply Or.inl); (refine ⟨rfl, rfl, ?_⟩); (conv => whnf))
      | (refine ⟨_, ⟨rfl, rfl⟩, ?_⟩; (conv => whnf))
      | (refine ⟨_, ⟨rfl, getM (by first | omega | (simp; omega))⟩, ?_⟩; (conv => whnf))
      | ((with_reducible apply Or.inl); apply Exists.intro; apply And.intro; (focus (intro hg; (conv => whnf); (repeat' first | (with_reducible exact ⟨rfl, rfl⟩) | ((with_reducible refine Own2.own ?_); (conv => whnf)) | (refine ⟨true, _, rfl, ?_⟩; (conv => whnf)) | (refine ⟨false, .nilp, rfl, ?_⟩; (conv => whnf)) | (refine ⟨_, _, by first | fail, ?_⟩; (conv => whnf)) | ((with_reducible apply Or.inl); (refine ⟨rfl, rfl, ?_⟩); (conv => whnf)) | ((with_reducible apply Or.inl); (with_reducible apply And.intro); (focus (simp only [rng]; omega)); (conv => whnf)) | (refine ⟨by first | omega | (simp at hg ⊢; omega) | (simp_all; first | done | fail), ?_⟩; (conv => whnf)) | ((with_reducible refine ACall.id ?_); (refine PCall.call (by first | fail) rfl ?_); (intro x hx; first | subst hx | (obtain ⟨l_, rfl, hl_⟩ := hx.out)); (conv => whnf)) | (intro hlen; (conv => whnf))); done)); (conv => whnf))
      | (apply Exists.intro; apply And.intro; (focus (first | (intro hg; (conv => whnf)) | (conv => whnf)); (repeat' first | (with_reducible exact ⟨rfl, rfl⟩) | ((with_reducible refine Own2.own ?_); (conv => whnf)) | (refine ⟨true, _, rfl, ?_⟩; (conv => whnf)) | (refine ⟨false, .nilp, rfl, ?_⟩; (conv => whnf)) | (refine ⟨_, _, by first | fail, ?_⟩; (conv => whnf)) | ((with_reducible apply Or.inl); (refine ⟨rfl, rfl, ?_⟩); (conv => whnf)) | ((with_reducible apply Or.inl); (with_reducible apply And.intro); (focus (simp only [rng]; omega)); (conv => whnf)) | (refine ⟨by first | omega | (simp at hg ⊢; omega) | (simp_all; first | done | fail), ?_⟩; (conv => whnf)) | ((with_reducible refine ACall.id ?_); (refine PCall.call (by first | fail) rfl ?_); (intro x hx; first | subst hx | (obtain ⟨l_, rfl, hl_⟩ := hx.out)); (conv => whnf)) | (intro hlen; (conv => whnf))); done); (conv => whnf))
      | ((with_reducible apply Or.inl); (with_reducible apply And.intro); (focus (simp only [rng]; omega)); (conv => whnf))
      | ((with_reducible apply Or.inr); (with_reducible apply And.intro) <;> (intro hb; (try simp at hb); (try (exfalso; first | omega | (simp_all; first | done | fail))); (try (conv => whnf))))
      | ((with_reducible apply And.intro); (focus (first | omega | (exact True.intro) | (simp; omega) | (exact Nat.le_of_ble_eq_true rfl) | (exact ⟨rfl, Nat.le_of_ble_eq_true rfl⟩) | (exact ⟨Nat.le_of_ble_eq_true rfl, Nat.le_of_ble_eq_true rfl⟩) | (intro hg; first | (simp; first | done | fail) | (simp at hg ⊢; exact hg) | (simp at hg; exact hg) | exact hg))); (conv => whnf))
      | ((with_reducible apply And.intro) <;> (intro hb; (try simp at hb); (try (exfalso; first | omega | (simp_all; first | done | fail))); (try (conv => whnf))))
      | (intro hlen; (conv => whnf))
      | ((with_reducible refine And.intro (Side.out ?_) ?_); rotate_left; (conv => whnf); rotate_right)
    · exact ⟨rfl, by simp; omega, by simp [maxLen]; omega⟩
    · have hb2 : (((upB (s.getD i 0)).toNat : Nat) : Int) = ((s.getD i 0).toNat : Int) - 32 := hub
      refine .mk (i + 1, v + 1) hit (by show s.length - (i + 1) < s.length - i; omega) ⟨rfl, rfl, rfl, ⟨OLe.of (by
      show AObj.row 5 1 ((up2 s i).map byteD ++ [.int .u8 (((s.getD i 0).toNat : Int) - 32)]) (v + 2) = AObj.row 5 1 ((up2 s (i + 1)).map byteD) (v + 2)
      rw [up2_step hit, hup]; first | (rw [hb2]; simp [byteD]; done) | (rw [← hb2]; simp [byteD]; done) | (simp [byteD]; done)), trivial⟩, ⟨AV.le_refl _, AV.le_refl _, AV.le_refl _, trivial⟩, rfl⟩
  · exact ⟨rfl, by simp; omega, by simp [maxLen]; omega⟩
  · exact ⟨rfl, by simp; omega, by simp [maxLen]; omega⟩
  · have hit : i < s.length := by assumption
    have hb : 97 ≤ ((s[i]?.getD 0).toNat : Int) → 122 < ((s[i]?.getD 0).toNat : Int) := by assumption
    have h32 : ((s[i]?.getD 0).toNat : Int) = 32 := by assumption
    rw [← List.getD_eq_getElem?_getD] at hb h32
    have hub : upB (s.getD i 0) = s.getD i 0 := by unfold upB; rw [if_neg (by omega)]
    have hc : s.getD i 0 = 32 := by apply UInt8.toNat_inj.1; show (s.getD i 0).toNat = 32; omega
    have hup : up1 (s.getD i 0) = [32, 32] := by unfold up1; rw [hub, hc]; rfl
    have hb2 : ((s.getD i 0).toNat : Int) = 32 := h32
    refine .mk (i + 1, v + 2) hit (by show s.length - (i + 1) < s.length - i; omega) ⟨rfl, rfl, rfl, ⟨OLe.of (by
      show AObj.row 5 1 ((up2 s i).map byteD ++ [.int .u8 ((s.getD i 0).toNat : Int)] ++ [.int .u8 32]) (v + 3) = AObj.row 5 1 ((up2 s (i + 1)).map byteD) (v + 3)
      rw [up2_step hit, hup]; first | (rw [hb2]; simp [byteD]; done) | (rw [← hb2]; simp [byteD]; done) | (simp [byteD]; done)), trivial⟩, ⟨AV.le_refl _, AV.le_refl _, AV.le_refl _, trivial⟩, rfl⟩
  · have hit : i < s.length := by assumption
    have hb : 97 ≤ ((s[i]?.getD 0).toNat : Int) → 122 < ((s[i]?.getD 0).toNat : Int) := by assumption
    have h32 : ¬ ((s[i]?.getD 0).toNat : Int) = 32 := by assumption
    rw [← List.getD_eq_getElem?_getD] at hb h32
    have hub : upB (s.getD i 0) = s.getD i 0 := by unfold upB; rw [if_neg (by omega)]
    have hup : up1 (s.getD i 0) = [s.getD i 0] := by
      unfold up1; rw [hub, if_neg (fun h => h32 (by rw [h]; rfl))]
    have hb2 : True := trivial
    refine .mk (i + 1, v + 1) hit (by show s.length - (i + 1) < s.length - i; omega) ⟨rfl, rfl, rfl, ⟨OLe.of (by
      show AObj.row 5 1 ((up2 s i).map byteD ++ [.int .u8 ((s.getD i 0).toNat : Int)]) (v + 2) = AObj.row 5 1 ((up2 s (i + 1)).map byteD) (v + 2)
      rw [up2_step hit, hup]; first | (rw [hb2]; simp [byteD]; done) | (rw [← hb2]; simp [byteD]; done) | (simp [byteD]; done)), trivial⟩, ⟨AV.le_refl _, AV.le_refl _, AV.le_refl _, trivial⟩, rfl⟩
  · exact ⟨rfl, by simp; omega, by simp [maxLen]; omega⟩
  · have he : i = s.length := by omega
    refine ⟨?_⟩
    show (up2 s i).map byteD ++ [.int .u8 10] = _
    rw [he]
    simp [up2, raisedS, byteD]
  · refine ⟨?_⟩
    have := up2_len s s.length
    have e : raisedS s = up2 s s.length ++ [10] := by simp [raisedS, up2]
    rw [e]; simp [maxLen]; omega
end Go.Proofs
end
section
/- Contracts: what lacks a name. -/
namespace Go.Proofs
open Go.Pm
set_option maxRecDepth 100000
set_option maxHeartbeats 4000000

theorem idx_has (L : List Str) (v : Str) : decide (0 ≤ idx L v) = L.contains v := by
  unfold idx
  cases h : L.findIdx? (fun s => v == s) with
  | some i =>
    obtain ⟨hi, h1, h2⟩ := List.findIdx?_eq_some_iff_getElem.1 h
    have : v ∈ L := by rw [eq_of_beq h1]; exact List.getElem_mem hi
    simp [this]
  | none =>
    rw [List.findIdx?_eq_none_iff] at h
    have : ¬ v ∈ L := fun hv => by have := h v hv; simp at this
    simp [this]
theorem c57' (L : List Str) (v : Str) : PCall Try.prog 57 [.d (encStrs L), .d (.str v)] fun x => x = .d (.bool (L.contains v)) := by
  have := c57 L v
  rwa [idx_has] at this
def lacksB (G own : List Str) : Bool := G.any fun g => !own.contains g
theorem lacksB_of {G own : List Str} {j : Nat} (hj : j < G.length) (h : ¬ G.getD j [] ∈ own) : lacksB G own = true := by
  unfold lacksB
  rw [List.any_eq_true]
  exact ⟨G.getD j [], by rw [List.getD_eq_getElem?_getD, List.getElem?_eq_getElem hj]; simp, by simpa using h⟩
def missB (G : List Str) (o : Obj) : Bool := decide (0 < (langsV o.tags).length) && lacksB G (langsV o.tags)
def missS (G : List Str) (m : List Obj) : List Str := (m.filter (missB G)).map (·.id)
def missV (G : List Str) (m : List Obj) : List Str := if mapB m then missS G m else []
theorem missS_step {G : List Str} {m : List Obj} {i : Nat} (h : i < m.length) : missS G (m.take (i + 1)) = missS G (m.take i) ++ (if missB G (m.getD i default) then [(m.getD i default).id] else []) := by
  unfold missS
  rw [take_succ_getD m i default h, List.filter_append, List.map_append]
  congr 1
  rw [List.filter_cons, List.filter_nil]
  cases hb : missB G (m.getD i default) <;> rfl
theorem missS_len (G : List Str) (m : List Obj) : (missS G m).length ≤ m.length := by
  unfold missS; rw [List.length_map]; exact List.length_filter_le _ _
theorem c67 (m : List Obj) (G : List Str) : PCall Try.prog 67 [.d (encMap m), .d (encStrs G)] fun x => x = .d (encStrs (missV G m)) := by
  refine PCall.strs ?_
  refine PCall.intro Try.tabOk Try.f67 _ Try.func67 rfl (by decide) rfl fun z => ?_
  repeat' first
    | (with_reducible refine AW.seq ?_)
    | ((with_reducible refine AW.region Try.tabOk ?_); (conv => whnf))
    | ((with_reducible refine AW.draw Try.tabOk Try.mixed ?_ ?_); (focus rfl); (conv => whnf))
    | ((with_reducible refine AW.ret ?_); (conv => whnf))
    | ((with_reducible refine AW.block ?_))
    | (with_reducible refine AW.scope ?_)
    | ((with_reducible refine AW.label ?_); (conv => whnf))
    | ((with_reducible refine AW.exit ?_); (conv => whnf))
    | ((with_reducible refine AW.skip ?_); (conv => whnf))
    | ((with_reducible refine AW.cond ?_); (conv => whnf))
    | ((with_reducible refine Own2.data ?_); (conv => whnf))
    | ((with_reducible refine ACall.id ?_); (refine PCall.call (by first | exact c26 _ | exact c38 _) rfl ?_); (intro x hx; first | subst hx | (obtain ⟨l_, rfl, hl_⟩ := hx.out)); (conv => whnf))
    | ((with_reducible refine ACall.freeze rfl ?_); (conv => whnf))
    | (refine ⟨true, _, rfl, ?_⟩; (conv => whnf))
    | (refine ⟨false, .nilp, rfl, ?_⟩; (conv => whnf))
    | (refine ⟨_, _, by first | exact c26 _ | exact c38 _, ?_⟩; (conv => whnf))
    | ((with_reducible apply Or.inl); (refine ⟨rfl, rfl, ?_⟩); (conv => whnf))
    | (refine ⟨_, ⟨rfl, rfl⟩, ?_⟩; (conv => whnf))
    | (refine ⟨_, ⟨rfl, getM (by first | omega | (simp; omega))⟩, ?_⟩; (conv => whnf))
    | ((with_reducible apply Or.inl); apply Exists.intro; apply And.intro; (focus (intro hg; (conv => whnf); (repeat' first | (with_reducible exact ⟨rfl, rfl⟩) | ((with_reducible refine Own2.data ?_); (conv => whnf)) | (refine ⟨true, _, rfl, ?_⟩; (conv => whnf)) | (refine ⟨false, .nilp, rfl, ?_⟩; (conv => whnf)) | (refine ⟨_, _, by first | exact c26 _ | exact c38 _, ?_⟩; (conv => whnf)) | ((with_reducible apply Or.inl); (refine ⟨rfl, rfl, ?_⟩); (conv => whnf)) | ((with_reducible apply Or.inl); (with_reducible apply And.intro); (focus (simp only [rng]; omega)); (conv => whnf)) | (refine ⟨by first | omega | (simp at hg ⊢; omega) | (simp_all; first | done | fail), ?_⟩; (conv => whnf)) | ((with_reducible refine ACall.id ?_); (refine PCall.call (by first | exact c26 _ | exact c38 _) rfl ?_); (intro x hx; first | subst hx | (obtain ⟨l_, rfl, hl_⟩ := hx.out)); (conv => whnf)) | (intro hlen; (conv => whnf))); done)); (conv => whnf))
    | (apply Exists.intro; apply And.intro; (focus (first | (intro hg; (conv => whnf)) | (conv => whnf)); (repeat' first | (with_reducible exact ⟨rfl, rfl⟩) | ((with_reducible refine Own2.data ?_); (conv => whnf)) | (refine ⟨true, _, rfl, ?_⟩; (conv => whnf)) | (refine ⟨false, .nilp, rfl, ?_⟩; (conv => whnf)) | (refine ⟨_, _, by first | exact c26 _ | exact c38 _, ?_⟩; (conv => whnf)) | ((with_reducible apply Or.inl); (refine ⟨rfl, rfl, ?_⟩); (conv => whnf)) | ((with_reducible apply Or.inl); (with_reducible apply And.intro); (focus (simp only [rng]; omega)); (conv => whnf)) | (refine ⟨by first | omega | (simp at hg ⊢; omega) | (simp_all; first | done | fail), ?_⟩; (conv => whnf)) | ((with_reducible refine ACall.id ?_); (refine PCall.call (by first | exact c26 _ | exact c38 _) rfl ?_); (intro x hx; first | subst hx | (obtain ⟨l_, rfl, hl_⟩ := hx.out)); (conv => whnf)) | (intro hlen; (conv => whnf))); done); (conv => whnf))
    | ((with_reducible apply Or.inl); (with_reducible apply And.intro); (focus (simp only [rng]; omega)); (conv => whnf))
    | ((with_reducible apply Or.inr); (with_reducible apply And.intro) <;> (intro hb; (try simp at hb); (try (exfalso; first | omega | (simp_all; first | done | fail))); (try (conv => whnf))))
    | ((with_reducible apply And.intro); (focus (first | omega | (exact True.intro) | (simp; omega) | (exact Nat.le_of_ble_eq_true rfl) | (exact ⟨rfl, Nat.le_of_ble_eq_true rfl⟩) | (exact ⟨Nat.le_of_ble_eq_true rfl, Nat.le_of_ble_eq_true rfl⟩) | (intro hg; first | (simp; first | done | fail) | (simp at hg ⊢; exact hg) | (simp at hg; exact hg) | exact hg))); (conv => whnf))
    | ((with_reducible apply And.intro) <;> (intro hb; (try simp at hb); (try (exfalso; first | omega | (simp_all; first | done | fail))); (try (conv => whnf))))
    | (intro hlen; (conv => whnf))
    | ((with_reducible refine And.intro (Side.out ?_) ?_); rotate_left; (conv => whnf); rotate_right)
  · exact .nil (by simp [missV, *])
  have hmb : mapB m = true := by assumption
  have hm : m.length ≤ 1000000 := by simp only [mapB, Bool.and_eq_true, decide_eq_true_eq] at hmb; exact hmb.2
  refine AW.loopS (X := Nat × Nat) [15, 14, 1] [0] (fun x => [(16, .d (.int .i64 (x.1 : Int))), (5, match x.2 with | 0 => .d .nils | v + 1 => .own 4 (v + 1) 1)]) (fun x => match x.2 with
      | 0 => []
      | v + 1 => [(4, .row 9 1 ((missS G (m.take x.1)).map .str) (v + 1))]) (fun x => match x.2 with | 0 => 1 | _ + 1 => 5)
    (fun x => x.1 ≤ m.length ∧ (x.2 = 0 ↔ missS G (m.take x.1) = [])) (fun x => m.length - x.1) (0, 0) ⟨Nat.zero_le _, by simp [missS]⟩ (fun x _ => by rcases x with ⟨_, _ | _⟩ <;> rfl) (by refine ⟨rfl, rfl, rfl, ?_, ?_⟩ <;> repeat' (first | exact trivial | exact OLe.refl _ | exact AV.le_refl _ | apply And.intro)) ?_
  intro ⟨i, v⟩ ⟨hi, hv⟩
  dsimp only at hi hv
  have hll := missS_len G (m.take i)
  rw [List.length_take] at hll
  cases v with
  | zero =>
    have hnil : missS G (m.take i) = [] := hv.1 rfl
    repeat' first
      | (with_reducible refine AW.seq ?_)
      | ((with_reducible refine AW.region Try.tabOk ?_); (conv => whnf))
      | ((with_reducible refine AW.draw Try.tabOk Try.mixed ?_ ?_); (focus rfl); (conv => whnf))
      | ((with_reducible refine AW.ret ?_); (conv => whnf))
      | ((with_reducible refine AW.block ?_))
      | (with_reducible refine AW.scope ?_)
      | ((with_reducible refine AW.label ?_); (conv => whnf))
      | ((with_reducible refine AW.exit ?_); (conv => whnf))
      | ((with_reducible refine AW.skip ?_); (conv => whnf))
      | ((with_reducible refine AW.cond ?_); (conv => whnf))
      | ((with_reducible refine Own2.data ?_); (conv => whnf))
      | ((with_reducible refine ACall.id ?_); (refine PCall.call (by first | exact c26 _ | exact c38 _ | exact c57' _ _) rfl ?_); (intro x hx; first | subst hx | (obtain ⟨l_, rfl, hl_⟩ := hx.out)); (conv => whnf))
      | ((with_reducible refine ACall.id ?_); (refine ACall.intro Try.tabOk Try.f81 _ Try.func81 rfl (by decide) rfl ?_); intro z_)
      | ((with_reducible refine ACall.id ?_); (refine ACall.intro Try.tabOk Try.f105 _ Try.func105 rfl (by decide) rfl ?_); intro z_)
      | ((with_reducible refine ACall.id ?_); (refine ACall.intro Try.tabOk Try.f97 _ Try.func97 rfl (by decide) rfl ?_); intro z_)
      | ((with_reducible refine ACall.freeze rfl ?_); (conv => whnf))
      | (refine ⟨true, _, rfl, ?_⟩; (conv => whnf))
      | (refine ⟨false, .nilp, rfl, ?_⟩; (conv => whnf))
      | (refine ⟨_, _, by first | exact c26 _ | exact c38 _ | exact c57' _ _, ?_⟩; (conv => whnf))
      | ((with_reducible apply Or.inl); (refine ⟨rfl, rfl, ?_⟩); (conv => whnf))
      | (refine ⟨_, ⟨rfl, rfl⟩, ?_⟩; (conv => whnf))
      | (refine ⟨_, ⟨rfl, getM (by first | omega | (simp; omega))⟩, ?_⟩; (conv => whnf))
      | ((with_reducible apply Or.inl); apply Exists.intro; apply And.intro; (focus (intro hg; (conv => whnf); (repeat' first | (with_reducible exact ⟨rfl, rfl⟩) | ((with_reducible refine Own2.data ?_); (conv => whnf)) | (refine ⟨true, _, rfl, ?_⟩; (conv => whnf)) | (refine ⟨false, .nilp, rfl, ?_⟩; (conv => whnf)) | (refine ⟨_, _, by first | exact c26 _ | exact c38 _ | exact c57' _ _, ?_⟩; (conv => whnf)) | ((with_reducible apply Or.inl); (refine ⟨rfl, rfl, ?_⟩); (conv => whnf)) | ((with_reducible apply Or.inl); (with_reducible apply And.intro); (focus (simp only [rng]; omega)); (conv => whnf)) | (refine ⟨by first | omega | (simp at hg ⊢; omega) | (simp_all; first | done | fail), ?_⟩; (conv => whnf)) | ((with_reducible refine ACall.id ?_); (refine PCall.call (by first | exact c26 _ | exact c38 _ | exact c57' _ _) rfl ?_); (intro x hx; first | subst hx | (obtain ⟨l_, rfl, hl_⟩ := hx.out)); (conv => whnf)) | (intro hlen; (conv => whnf))); done)); (conv => whnf))
      | (apply Exists.intro; apply And.intro; (focus (first | (intro hg; (conv => whnf)) | (conv => whnf)); (repeat' first | (with_reducible exact ⟨rfl, rfl⟩) | ((with_reducible refine Own2.data ?_); (conv => whnf)) | (refine ⟨true, _, rfl, ?_⟩; (conv => whnf)) | (refine ⟨false, .nilp, rfl, ?_⟩; (conv => whnf)) | (refine ⟨_, _, by first | exact c26 _ | exact c38 _ | exact c57' _ _, ?_⟩; (conv => whnf)) | ((with_reducible apply Or.inl); (refine ⟨rfl, rfl, ?_⟩); (conv => whnf)) | ((with_reducible apply Or.inl); (with_reducible apply And.intro); (focus (simp only [rng]; omega)); (conv => whnf)) | (refine ⟨by first | omega | (simp at hg ⊢; omega) | (simp_all; first | done | fail), ?_⟩; (conv => whnf)) | ((with_reducible refine ACall.id ?_); (refine PCall.call (by first | exact c26 _ | exact c38 _ | exact c57' _ _) rfl ?_); (intro x hx; first | subst hx | (obtain ⟨l_, rfl, hl_⟩ := hx.out)); (conv => whnf)) | (intro hlen; (conv => whnf))); done); (conv => whnf))
      | ((with_reducible apply Or.inl); (with_reducible apply And.intro); (focus (simp only [rng]; omega)); (conv => whnf))
      | ((with_reducible apply Or.inr); (with_reducible apply And.intro) <;> (intro hb; (try simp at hb); (try (exfalso; first | omega | (simp_all; first | done | fail))); (try (conv => whnf))))
      | ((with_reducible apply And.intro); (focus (first | omega | (exact True.intro) | (simp; omega) | (exact Nat.le_of_ble_eq_true rfl) | (exact ⟨rfl, Nat.le_of_ble_eq_true rfl⟩) | (exact ⟨Nat.le_of_ble_eq_true rfl, Nat.le_of_ble_eq_true rfl⟩) | (intro hg; first | (simp; first | done | fail) | (simp at hg ⊢; exact hg) | (simp at hg; exact hg) | exact hg))); (conv => whnf))
      | ((with_reducible apply And.intro) <;> (intro hb; (try simp at hb); (try (exfalso; first | omega | (simp_all; first | done | fail))); (try (conv => whnf))))
      | (intro hlen; (conv => whnf))
      | ((with_reducible refine And.intro (Side.out ?_) ?_); rotate_left; (conv => whnf); rotate_right)
    · refine AW.loopS (X := Nat) [7, 6, 0, 1] [0, 1, 2] (fun j => [(8, .d (.int .i64 (j : Int)))]) (fun _ => []) (fun _ => 3)
        (fun j => j ≤ G.length ∧ ∀ k, k < j → (langsV (m.getD i default).tags).contains (G.getD k []) = true) (fun j => G.length - j) 0 ⟨Nat.zero_le _, fun k h => absurd h (Nat.not_lt_zero k)⟩ (fun _ _ => rfl) (by refine ⟨rfl, rfl, rfl, ?_, ?_⟩ <;> repeat' (first | exact trivial | exact OLe.refl _ | exact AV.le_refl _ | apply And.intro)) ?_
      intro j ⟨hj, hw⟩
      repeat' first
        | (with_reducible refine AW.seq ?_)
        | ((with_reducible refine AW.region Try.tabOk ?_); (conv => whnf))
        | ((with_reducible refine AW.draw Try.tabOk Try.mixed ?_ ?_); (focus rfl); (conv => whnf))
        | ((with_reducible refine AW.ret ?_); (conv => whnf))
        | ((with_reducible refine AW.block ?_))
        | (with_reducible refine AW.scope ?_)
        | ((with_reducible refine AW.label ?_); (conv => whnf))
        | ((with_reducible refine AW.exit ?_); (conv => whnf))
        | ((with_reducible refine AW.skip ?_); (conv => whnf))
        | ((with_reducible refine AW.cond ?_); (conv => whnf))
        | ((with_reducible refine Own2.data ?_); (conv => whnf))
        | ((with_reducible refine ACall.id ?_); (refine PCall.call (by first | exact c26 _ | exact c38 _ | exact c57' _ _) rfl ?_); (intro x hx; first | subst hx | (obtain ⟨l_, rfl, hl_⟩ := hx.out)); (conv => whnf))
        | ((with_reducible refine ACall.id ?_); (refine ACall.intro Try.tabOk Try.f81 _ Try.func81 rfl (by decide) rfl ?_); intro z_)
        | ((with_reducible refine ACall.id ?_); (refine ACall.intro Try.tabOk Try.f105 _ Try.func105 rfl (by decide) rfl ?_); intro z_)
        | ((with_reducible refine ACall.id ?_); (refine ACall.intro Try.tabOk Try.f97 _ Try.func97 rfl (by decide) rfl ?_); intro z_)
        | ((with_reducible refine ACall.freeze rfl ?_); (conv => whnf))
        | (refine ⟨true, _, rfl, ?_⟩; (conv => whnf))
        | (refine ⟨false, .nilp, rfl, ?_⟩; (conv => whnf))
        | (refine ⟨_, _, by first | exact c26 _ | exact c38 _ | exact c57' _ _, ?_⟩; (conv => whnf))
        | ((with_reducible apply Or.inl); (refine ⟨rfl, rfl, ?_⟩); (conv => whnf))
        | (refine ⟨_, ⟨rfl, rfl⟩, ?_⟩; (conv => whnf))
        | (refine ⟨_, ⟨rfl, getM (by first | omega | (simp; omega))⟩, ?_⟩; (conv => whnf))
        | ((with_reducible apply Or.inl); apply Exists.intro; apply And.intro; (focus (intro hg; (conv => whnf); (repeat' first | (with_reducible exact ⟨rfl, rfl⟩) | ((with_reducible refine Own2.data ?_); (conv => whnf)) | (refine ⟨true, _, rfl, ?_⟩; (conv => whnf)) | (refine ⟨false, .nilp, rfl, ?_⟩; (conv => whnf)) | (refine ⟨_, _, by first | exact c26 _ | exact c38 _ | exact c57' _ _, ?_⟩; (conv => whnf)) | ((with_reducible apply Or.inl); (refine ⟨rfl, rfl, ?_⟩); (conv => whnf)) | ((with_reducible apply Or.inl); (with_reducible apply And.intro); (focus (simp only [rng]; omega)); (conv => whnf)) | (refine ⟨by first | omega | (simp at hg ⊢; omega) | (simp_all; first | done | fail), ?_⟩; (conv => whnf)) | ((with_reducible refine ACall.id ?_); (refine PCall.call (by first | exact c26 _ | exact c38 _ | exact c57' _ _) rfl ?_); (intro x hx; first | subst hx | (obtain ⟨l_, rfl, hl_⟩ := hx.out)); (conv => whnf)) | (intro hlen; (conv => whnf))); done)); (conv => whnf))
        | (apply Exists.intro; apply And.intro; (focus (first | (intro hg; (conv => whnf)) | (conv => whnf)); (repeat' first | (with_reducible exact ⟨rfl, rfl⟩) | ((with_reducible refine Own2.data ?_); (conv => whnf)) | (refine ⟨true, _, rfl, ?_⟩; (conv => whnf)) | (refine ⟨false, .nilp, rfl, ?_⟩; (conv => whnf)) | (refine ⟨_, _, by first | exact c26 _ | exact c38 _ | exact c57' _ _, ?_⟩; (conv => whnf)) | ((with_reducible apply Or.inl); (refine ⟨rfl, rfl, ?_⟩); (conv => whnf)) | ((with_reducible apply Or.inl); (with_reducible apply And.intro); (focus (simp only [rng]; omega)); (conv => whnf)) | (refine ⟨by first | omega | (simp at hg ⊢; omega) | (simp_all; first | done | fail), ?_⟩; (conv => whnf)) | ((with_reducible refine ACall.id ?_); (refine PCall.call (by first | exact c26 _ | exact c38 _ | exact c57' _ _) rfl ?_); (intro x hx; first | subst hx | (obtain ⟨l_, rfl, hl_⟩ := hx.out)); (conv => whnf)) | (intro hlen; (conv => whnf))); done); (conv => whnf))
        | ((with_reducible apply Or.inl); (with_reducible apply And.intro); (focus (simp only [rng]; omega)); (conv => whnf))
        | ((with_reducible apply Or.inr); (with_reducible apply And.intro) <;> (intro hb; (try simp at hb); (try (exfalso; first | omega | (simp_all; first | done | fail))); (try (conv => whnf))))
        | ((with_reducible apply And.intro); (focus (first | omega | (exact True.intro) | (simp; omega) | (exact Nat.le_of_ble_eq_true rfl) | (exact ⟨rfl, Nat.le_of_ble_eq_true rfl⟩) | (exact ⟨Nat.le_of_ble_eq_true rfl, Nat.le_of_ble_eq_true rfl⟩) | (intro hg; first | (simp; first | done | fail) | (simp at hg ⊢; exact hg) | (simp at hg; exact hg) | exact hg))); (conv => whnf))
        | ((with_reducible apply And.intro) <;> (intro hb; (try simp at hb); (try (exfalso; first | omega | (simp_all; first | done | fail))); (try (conv => whnf))))
        | (intro hlen; (conv => whnf))
        | ((with_reducible refine And.intro (Side.out ?_) ?_); rotate_left; (conv => whnf); rotate_right)
      all_goals try (have hit : i < m.length := by assumption)
      all_goals try (have hst := missS_step (G := G) hit)
      all_goals try (have hlit : j < G.length := by assumption)
      all_goals try (have hgj : ¬G[j]?.getD [] ∈ langsV (m[i]?.getD default).tags := by assumption)
      all_goals try (rw [← List.getD_eq_getElem?_getD, ← List.getD_eq_getElem?_getD] at hgj)
      all_goals try (have hlk := lacksB_of hlit hgj)
      · have hl0 : 0 < (langsV (m[i]?.getD default).tags).length := by assumption
        rw [← List.getD_eq_getElem?_getD] at hl0
        have hmi : missB G (m.getD i default) = true := by unfold missB; rw [hlk]; simpa using hl0
        rw [hmi, if_pos rfl] at hst
        exact .mk (i + 1, 1) ⟨hit, by dsimp only; rw [hst]; simp⟩ (by show m.length - (i + 1) < m.length - i; omega) ⟨rfl, rfl, rfl, ⟨OLe.of (by show AObj.row 9 1 [D.str (m.getD i default).id] 1 = AObj.row 9 1 ((missS G (m.take (i + 1))).map D.str) 1; rw [hst, hnil]; rfl), OLe.refl _, trivial⟩, ⟨AV.le_refl _, AV.le_refl _, AV.le_refl _, AV.le_refl _, AV.le_refl _, trivial⟩, rfl⟩
      · have hl0 : langsV (m[i]?.getD default).tags = [] := by assumption
        rw [← List.getD_eq_getElem?_getD] at hl0
        have hmi : missB G (m.getD i default) = false := by unfold missB; rw [hl0]; rfl
        rw [hmi, if_neg (by simp), List.append_nil] at hst
        exact .mk (i + 1, 0) ⟨hit, by dsimp only; rw [hst, hnil]; simp⟩ (by show m.length - (i + 1) < m.length - i; omega) (by refine ⟨rfl, rfl, rfl, ?_, ?_, rfl⟩ <;> repeat' (first | exact trivial | exact OLe.refl _ | exact AV.le_refl _ | apply And.intro))
      · have hgj : G[j]?.getD [] ∈ langsV (m[i]?.getD default).tags := by assumption
        rw [← List.getD_eq_getElem?_getD, ← List.getD_eq_getElem?_getD] at hgj
        exact .mk (j + 1) ⟨hlit, fun k hk => by
          by_cases e : k = j
          · subst e; simpa using hgj
          · exact hw k (by omega)⟩ (by show G.length - (j + 1) < G.length - j; omega) (by refine ⟨rfl, rfl, rfl, ?_, ?_, rfl⟩ <;> repeat' (first | exact trivial | exact OLe.refl _ | exact AV.le_refl _ | apply And.intro))
      · have hlk : lacksB G (langsV (m.getD i default).tags) = false := by
          unfold lacksB
          rw [List.any_eq_false]
          intro g hg
          obtain ⟨k, hk, rfl⟩ := List.mem_iff_getElem.1 hg
          have := hw k (by omega)
          have e : G.getD k [] = G[k] := by rw [List.getD_eq_getElem?_getD, List.getElem?_eq_getElem hk]; rfl
          rw [e] at this
          rw [this]; simp
        have hmi : missB G (m.getD i default) = false := by unfold missB; rw [hlk]; simp
        rw [hmi, if_neg (by simp), List.append_nil] at hst
        exact .mk (i + 1, 0) ⟨hit, by dsimp only; rw [hst, hnil]; simp⟩ (by show m.length - (i + 1) < m.length - i; omega) (by refine ⟨rfl, rfl, rfl, ?_, ?_, rfl⟩ <;> repeat' (first | exact trivial | exact OLe.refl _ | exact AV.le_refl _ | apply And.intro))
    · have he : i = m.length := by omega
      have hnil2 : missS G m = [] := by have := hv.1 rfl; rw [he, List.take_length] at this; exact this
      exact .nil (by simp [missV, hmb, hnil2])
  | succ v =>
    have hne : missS G (m.take i) ≠ [] := fun h => by have := hv.2 h; omega
    repeat' first
      | (with_reducible refine AW.seq ?_)
      | ((with_reducible refine AW.region Try.tabOk ?_); (conv => whnf))
      | ((with_reducible refine AW.draw Try.tabOk Try.mixed ?_ ?_); (focus rfl); (conv => whnf))
      | ((with_reducible refine AW.ret ?_); (conv => whnf))
      | ((with_reducible refine AW.block ?_))
      | (with_reducible refine AW.scope ?_)
      | ((with_reducible refine AW.label ?_); (conv => whnf))
      | ((with_reducible refine AW.exit ?_); (conv => whnf))
      | ((with_reducible refine AW.skip ?_); (conv => whnf))
      | ((with_reducible refine AW.cond ?_); (conv => whnf))
      | ((with_reducible refine Own2.data ?_); (conv => whnf))
      | ((with_reducible refine ACall.id ?_); (refine PCall.call (by first | exact c26 _ | exact c38 _ | exact c57' _ _) rfl ?_); (intro x hx; first | subst hx | (obtain ⟨l_, rfl, hl_⟩ := hx.out)); (conv => whnf))
      | ((with_reducible refine ACall.id ?_); (refine ACall.intro Try.tabOk Try.f81 _ Try.func81 rfl (by decide) rfl ?_); intro z_)
      | ((with_reducible refine ACall.id ?_); (refine ACall.intro Try.tabOk Try.f105 _ Try.func105 rfl (by decide) rfl ?_); intro z_)
      | ((with_reducible refine ACall.id ?_); (refine ACall.intro Try.tabOk Try.f97 _ Try.func97 rfl (by decide) rfl ?_); intro z_)
      | ((with_reducible refine ACall.freeze rfl ?_); (conv => whnf))
      | (refine ⟨true, _, rfl, ?_⟩; (conv => whnf))
      | (refine ⟨false, .nilp, rfl, ?_⟩; (conv => whnf))
      | (refine ⟨_, _, by first | exact c26 _ | exact c38 _ | exact c57' _ _, ?_⟩; (conv => whnf))
      | ((with_reducible apply Or.inl); (refine ⟨rfl, rfl, ?_⟩); (conv => whnf))
      | (refine ⟨_, ⟨rfl, rfl⟩, ?_⟩; (conv => whnf))
      | (refine ⟨_, ⟨rfl, getM (by first | omega | (simp; omega))⟩, ?_⟩; (conv => whnf))
      | ((with_reducible apply Or.inl); apply Exists.intro; apply And.intro; (focus (intro hg; (conv => whnf); (repeat' first | (with_reducible exact ⟨rfl, rfl⟩) | ((with_reducible refine Own2.data ?_); (conv => whnf)) | (refine ⟨true, _, rfl, ?_⟩; (conv => whnf)) | (refine ⟨false, .nilp, rfl, ?_⟩; (conv => whnf)) | (refine ⟨_, _, by first | exact c26 _ | exact c38 _ | exact c57' _ _, ?_⟩; (conv => whnf)) | ((with_reducible apply Or.inl); (refine ⟨rfl, rfl, ?_⟩); (conv => whnf)) | ((with_reducible apply Or.inl); (with_reducible apply And.intro); (focus (simp only [rng]; omega)); (conv => whnf)) | (refine ⟨by first | omega | (simp at hg ⊢; omega) | (simp_all; first | done | fail), ?_⟩; (conv => whnf)) | ((with_reducible refine ACall.id ?_); (refine PCall.call (by first | exact c26 _ | exact c38 _ | exact c57' _ _) rfl ?_); (intro x hx; first | subst hx | (obtain ⟨l_, rfl, hl_⟩ := hx.out)); (conv => whnf)) | (intro hlen; (conv => whnf))); done)); (conv => whnf))
      | (apply Exists.intro; apply And.intro; (focus (first | (intro hg; (conv => whnf)) | (conv => whnf)); (repeat' first | (with_reducible exact ⟨rfl, rfl⟩) | ((with_reducible refine Own2.data ?_); (conv => whnf)) | (refine ⟨true, _, rfl, ?_⟩; (conv => whnf)) | (refine ⟨false, .nilp, rfl, ?_⟩; (conv => whnf)) | (refine ⟨_, _, by first | exact c26 _ | exact c38 _ | exact c57' _ _, ?_⟩; (conv => whnf)) | ((with_reducible apply Or.inl); (refine ⟨rfl, rfl, ?_⟩); (conv => whnf)) | ((with_reducible apply Or.inl); (with_reducible apply And.intro); (focus (simp only [rng]; omega)); (conv => whnf)) | (refine ⟨by first | omega | (simp at hg ⊢; omega) | (simp_all; first | done | fail), ?_⟩; (conv => whnf)) | ((with_reducible refine ACall.id ?_); (refine PCall.call (by first | exact c26 _ | exact c38 _ | exact c57' _ _) rfl ?_); (intro x hx; first | subst hx | (obtain ⟨l_, rfl, hl_⟩ := hx.out)); (conv => whnf)) | (intro hlen; (conv => whnf))); done); (conv => whnf))
      | ((with_reducible apply Or.inl); (with_reducible apply And.intro); (focus (simp only [rng]; omega)); (conv => whnf))
      | ((with_reducible apply Or.inr); (with_reducible apply And.intro) <;> (intro hb; (try simp at hb); (try (exfalso; first | omega | (simp_all; first | done | fail))); (try (conv => whnf))))
      | ((with_reducible apply And.intro); (focus (first | omega | (exact True.intro) | (simp; omega) | (exact Nat.le_of_ble_eq_true rfl) | (exact ⟨rfl, Nat.le_of_ble_eq_true rfl⟩) | (exact ⟨Nat.le_of_ble_eq_true rfl, Nat.le_of_ble_eq_true rfl⟩) | (intro hg; first | (simp; first | done | fail) | (simp at hg ⊢; exact hg) | (simp at hg; exact hg) | exact hg))); (conv => whnf))
      | ((with_reducible apply And.intro) <;> (intro hb; (try simp at hb); (try (exfalso; first | omega | (simp_all; first | done | fail))); (try (conv => whnf))))
      | (intro hlen; (conv => whnf))
      | ((with_reducible refine And.intro (Side.out ?_) ?_); rotate_left; (conv => whnf); rotate_right)
    · refine AW.loopS (X := Nat) [7, 6, 0, 1] [0, 4, 5, 6] (fun j => [(8, .d (.int .i64 (j : Int)))]) (fun _ => []) (fun _ => 7)
        (fun j => j ≤ G.length ∧ ∀ k, k < j → (langsV (m.getD i default).tags).contains (G.getD k []) = true) (fun j => G.length - j) 0 ⟨Nat.zero_le _, fun k h => absurd h (Nat.not_lt_zero k)⟩ (fun _ _ => rfl) (by refine ⟨rfl, rfl, rfl, ?_, ?_⟩ <;> repeat' (first | exact trivial | exact OLe.refl _ | exact AV.le_refl _ | apply And.intro)) ?_
      intro j ⟨hj, hw⟩
      repeat' first
        | (with_reducible refine AW.seq ?_)
        | ((with_reducible refine AW.region Try.tabOk ?_); (conv => whnf))
        | ((with_reducible refine AW.draw Try.tabOk Try.mixed ?_ ?_); (focus rfl); (conv => whnf))
        | ((with_reducible refine AW.ret ?_); (conv => whnf))
        | ((with_reducible refine AW.block ?_))
        | (with_reducible refine AW.scope ?_)
        | ((with_reducible refine AW.label ?_); (conv => whnf))
        | ((with_reducible refine AW.exit ?_); (conv => whnf))
        | ((with_reducible refine AW.skip ?_); (conv => whnf))
        | ((with_reducible refine AW.cond ?_); (conv => whnf))
        | ((with_reducible refine Own2.data ?_); (conv => whnf))
        | ((with_reducible refine ACall.id ?_); (refine PCall.call (by first | exact c26 _ | exact c38 _ | exact c57' _ _) rfl ?_); (intro x hx; first | subst hx | (obtain ⟨l_, rfl, hl_⟩ := hx.out)); (conv => whnf))
        | ((with_reducible refine ACall.id ?_); (refine ACall.intro Try.tabOk Try.f81 _ Try.func81 rfl (by decide) rfl ?_); intro z_)
        | ((with_reducible refine ACall.id ?_); (refine ACall.intro Try.tabOk Try.f105 _ Try.func105 rfl (by decide) rfl ?_); intro z_)
        | ((with_reducible refine ACall.id ?_); (refine ACall.intro Try.tabOk Try.f97 _ Try.func97 rfl (by decide) rfl ?_); intro z_)
        | ((with_reducible refine ACall.freeze rfl ?_); (conv => whnf))
        | (refine ⟨true, _, rfl, ?_⟩; (conv => whnf))
        | (refine ⟨false, .nilp, rfl, ?_⟩; (conv => whnf))
        | (refine ⟨_, _, by first | exact c26 _ | exact c38 _ | exact c57' _ _, ?_⟩; (conv => whnf))
        | ((with_reducible apply Or.inl); (refine ⟨rfl, rfl, ?_⟩); (conv => whnf))
        | (refine ⟨_, ⟨rfl, rfl⟩, ?_⟩; (conv => whnf))
        | (refine ⟨_, ⟨rfl, getM (by first | omega | (simp; omega))⟩, ?_⟩; (conv => whnf))
        | ((with_reducible apply Or.inl); apply Exists.intro; apply And.intro; (focus (intro hg; (conv => whnf); (repeat' first | (with_reducible exact ⟨rfl, rfl⟩) | ((with_reducible refine Own2.data ?_); (conv => whnf)) | (refine ⟨true, _, rfl, ?_⟩; (conv => whnf)) | (refine ⟨false, .nilp, rfl, ?_⟩; (conv => whnf)) | (refine ⟨_, _, by first | exact c26 _ | exact c38 _ | exact c57' _ _, ?_⟩; (conv => whnf)) | ((with_reducible apply Or.inl); (refine ⟨rfl, rfl, ?_⟩); (conv => whnf)) | ((with_reducible apply Or.inl); (with_reducible apply And.intro); (focus (simp only [rng]; omega)); (conv => whnf)) | (refine ⟨by first | omega | (simp at hg ⊢; omega) | (simp_all; first | done | fail), ?_⟩; (conv => whnf)) | ((with_reducible refine ACall.id ?_); (refine PCall.call (by first | exact c26 _ | exact c38 _ | exact c57' _ _) rfl ?_); (intro x hx; first | subst hx | (obtain ⟨l_, rfl, hl_⟩ := hx.out)); (conv => whnf)) | (intro hlen; (conv => whnf))); done)); (conv => whnf))
        | (apply Exists.intro; apply And.intro; (focus (first | (intro hg; (conv => whnf)) | (conv => whnf)); (repeat' first | (with_reducible exact ⟨rfl, rfl⟩) | ((with_reducible refine Own2.data ?_); (conv => whnf)) | (refine ⟨true, _, rfl, ?_⟩; (conv => whnf)) | (refine ⟨false, .nilp, rfl, ?_⟩; (conv => whnf)) | (refine ⟨_, _, by first | exact c26 _ | exact c38 _ | exact c57' _ _, ?_⟩; (conv => whnf)) | ((with_reducible apply Or.inl); (refine ⟨rfl, rfl, ?_⟩); (conv => whnf)) | ((with_reducible apply Or.inl); (with_reducible apply And.intro); (focus (simp only [rng]; omega)); (conv => whnf)) | (refine ⟨by first | omega | (simp at hg ⊢; omega) | (simp_all; first | done | fail), ?_⟩; (conv => whnf)) | ((with_reducible refine ACall.id ?_); (refine PCall.call (by first | exact c26 _ | exact c38 _ | exact c57' _ _) rfl ?_); (intro x hx; first | subst hx | (obtain ⟨l_, rfl, hl_⟩ := hx.out)); (conv => whnf)) | (intro hlen; (conv => whnf))); done); (conv => whnf))
        | ((with_reducible apply Or.inl); (with_reducible apply And.intro); (focus (simp only [rng]; omega)); (conv => whnf))
        | ((with_reducible apply Or.inr); (with_reducible apply And.intro) <;> (intro hb; (try simp at hb); (try (exfalso; first | omega | (simp_all; first | done | fail))); (try (conv => whnf))))
        | ((with_reducible apply And.intro); (focus (first | omega | (exact True.intro) | (simp; omega) | (exact Nat.le_of_ble_eq_true rfl) | (exact ⟨rfl, Nat.le_of_ble_eq_true rfl⟩) | (exact ⟨Nat.le_of_ble_eq_true rfl, Nat.le_of_ble_eq_true rfl⟩) | (intro hg; first | (simp; first | done | fail) | (simp at hg ⊢; exact hg) | (simp at hg; exact hg) | exact hg))); (conv => whnf))
        | ((with_reducible apply And.intro) <;> (intro hb; (try simp at hb); (try (exfalso; first | omega | (simp_all; first | done | fail))); (try (conv => whnf))))
        | (intro hlen; (conv => whnf))
        | ((with_reducible refine And.intro (Side.out ?_) ?_); rotate_left; (conv => whnf); rotate_right)
      all_goals try (have hit : i < m.length := by assumption)
      all_goals try (have hst := missS_step (G := G) hit)
      all_goals try (have hlit : j < G.length := by assumption)
      all_goals try (have hgj : ¬G[j]?.getD [] ∈ langsV (m[i]?.getD default).tags := by assumption)
      all_goals try (rw [← List.getD_eq_getElem?_getD, ← List.getD_eq_getElem?_getD] at hgj)
      all_goals try (have hlk := lacksB_of hlit hgj)
      · exact ⟨rfl, by simp; omega, by simp [maxLen]; omega⟩
      · have hl0 : 0 < (langsV (m[i]?.getD default).tags).length := by assumption
        rw [← List.getD_eq_getElem?_getD] at hl0
        have hmi : missB G (m.getD i default) = true := by unfold missB; rw [hlk]; simpa using hl0
        rw [hmi, if_pos rfl] at hst
        exact .mk (i + 1, v + 2) ⟨hit, by dsimp only; rw [hst]; simp⟩ (by show m.length - (i + 1) < m.length - i; omega) ⟨rfl, rfl, rfl, ⟨OLe.of (by show AObj.row 9 1 ((missS G (m.take i)).map D.str ++ [D.str (m.getD i default).id]) (v + 2) = AObj.row 9 1 ((missS G (m.take (i + 1))).map D.str) (v + 2); rw [hst]; simp), OLe.refl _, trivial⟩, ⟨AV.le_refl _, AV.le_refl _, AV.le_refl _, AV.le_refl _, AV.le_refl _, trivial⟩, rfl⟩
      · have hl0 : langsV (m[i]?.getD default).tags = [] := by assumption
        rw [← List.getD_eq_getElem?_getD] at hl0
        have hmi : missB G (m.getD i default) = false := by unfold missB; rw [hl0]; rfl
        rw [hmi, if_neg (by simp), List.append_nil] at hst
        exact .mk (i + 1, v + 1) ⟨hit, by dsimp only; rw [hst]; simp [hne]⟩ (by show m.length - (i + 1) < m.length - i; omega) ⟨rfl, rfl, rfl, ⟨OLe.of (by show AObj.row 9 1 ((missS G (m.take i)).map D.str) (v + 1) = AObj.row 9 1 ((missS G (m.take (i + 1))).map D.str) (v + 1); rw [hst]), OLe.refl _, trivial⟩, ⟨AV.le_refl _, AV.le_refl _, AV.le_refl _, AV.le_refl _, AV.le_refl _, trivial⟩, rfl⟩
      · have hgj : G[j]?.getD [] ∈ langsV (m[i]?.getD default).tags := by assumption
        rw [← List.getD_eq_getElem?_getD, ← List.getD_eq_getElem?_getD] at hgj
        exact .mk (j + 1) ⟨hlit, fun k hk => by
          by_cases e : k = j
          · subst e; simpa using hgj
          · exact hw k (by omega)⟩ (by show G.length - (j + 1) < G.length - j; omega) (by refine ⟨rfl, rfl, rfl, ?_, ?_, rfl⟩ <;> repeat' (first | exact trivial | exact OLe.refl _ | exact AV.le_refl _ | apply And.intro))
      · have hlk : lacksB G (langsV (m.getD i default).tags) = false := by
          unfold lacksB
          rw [List.any_eq_false]
          intro g hg
          obtain ⟨k, hk, rfl⟩ := List.mem_iff_getElem.1 hg
          have := hw k (by omega)
          have e : G.getD k [] = G[k] := by rw [List.getD_eq_getElem?_getD, List.getElem?_eq_getElem hk]; rfl
          rw [e] at this
          rw [this]; simp
        have hmi : missB G (m.getD i default) = false := by unfold missB; rw [hlk]; simp
        rw [hmi, if_neg (by simp), List.append_nil] at hst
        exact .mk (i + 1, v + 1) ⟨hit, by dsimp only; rw [hst]; simp [hne]⟩ (by show m.length - (i + 1) < m.length - i; omega) ⟨rfl, rfl, rfl, ⟨OLe.of (by show AObj.row 9 1 ((missS G (m.take i)).map D.str) (v + 1) = AObj.row 9 1 ((missS G (m.take (i + 1))).map D.str) (v + 1); rw [hst]), OLe.refl _, trivial⟩, ⟨AV.le_refl _, AV.le_refl _, AV.le_refl _, AV.le_refl _, AV.le_refl _, trivial⟩, rfl⟩
    · have he : i = m.length := by omega
      have hV : missV G m = missS G m := by simp [missV, hmb]
      rw [hV]
      subst he
      show SlRes 1 _ (.d (.list 1 ((missS G (m.take m.length)).map D.str)))
      rw [List.take_length]; exact .row
end Go.Proofs
end
section
/- Contracts: who answers to a name. -/
namespace Go.Proofs
open Go.Pm
set_option maxRecDepth 100000
set_option maxHeartbeats 4000000

def findP (t : Str) (p : Str × Str) : Bool := (lang p.1).isSome && decide (foldS p.2 = t)
def findB (t : Str) (o : Obj) : Bool := o.tags.any (findP t)
def findS (t : Str) (m : List Obj) : List Str := (m.filter (findB t)).map (·.id)
def findV (m : List Obj) (s : Str) : List Str := if mapB m && !decide (foldS s = []) then findS (foldS s) m else []
theorem findS_step {t : Str} {m : List Obj} {i : Nat} (h : i < m.length) : findS t (m.take (i + 1)) = findS t (m.take i) ++ (if findB t (m.getD i default) then [(m.getD i default).id] else []) := by
  unfold findS
  rw [take_succ_getD m i default h, List.filter_append, List.map_append]
  congr 1
  rw [List.filter_cons, List.filter_nil]
  cases hb : findB t (m.getD i default) <;> rfl
theorem findS_len (t : Str) (m : List Obj) : (findS t m).length ≤ m.length := by
  unfold findS; rw [List.length_map]; exact List.length_filter_le _ _
theorem mapB_tags {m : List Obj} (h : mapB m = true) {i : Nat} (hi : i < m.length) : tagsB (m.getD i default).tags = true := by
  simp only [mapB, Bool.and_eq_true, List.all_eq_true] at h
  have e : m.getD i default = m[i] := by rw [List.getD_eq_getElem?_getD, List.getElem?_eq_getElem hi]; rfl
  rw [e]
  have := h.1.1 m[i] (List.getElem_mem hi)
  simp only [objB, Bool.and_eq_true] at this
  exact this.1.1.1.2
theorem tagsB_len {L : List (Str × Str)} (h : tagsB L = true) : L.length ≤ 60 := by
  simp only [tagsB, Bool.and_eq_true, decide_eq_true_eq] at h; exact h.2
theorem tagsB_val {L : List (Str × Str)} (h : tagsB L = true) (j : Nat) : (L.getD j dT).2.length ≤ 1000000000000 := by
  simp only [tagsB, Bool.and_eq_true, List.all_eq_true] at h
  by_cases hj : j < L.length
  · have e : L.getD j dT = L[j] := by rw [List.getD_eq_getElem?_getD, List.getElem?_eq_getElem hj]; rfl
    rw [e]
    have := h.1.1 L[j] (List.getElem_mem hj)
    simp only [tagB, Bool.and_eq_true, decide_eq_true_eq] at this
    omega
  · rw [List.getD_eq_getElem?_getD, List.getElem?_eq_none (by omega)]; exact Nat.zero_le _
theorem findB_yes {t : Str} {o : Obj} {j : Nat} (hj : j < o.tags.length) (h : findP t (o.tags.getD j dT) = true) : findB t o = true := by
  unfold findB
  rw [List.any_eq_true]
  exact ⟨_, by rw [List.getD_eq_getElem?_getD, List.getElem?_eq_getElem hj]; exact List.getElem_mem hj, h⟩
theorem findB_no {t : Str} {o : Obj} (h : ∀ k, k < o.tags.length → findP t (o.tags.getD k dT) = false) : findB t o = false := by
  unfold findB
  rw [List.any_eq_false]
  intro g hg
  obtain ⟨k, hk, rfl⟩ := List.mem_iff_getElem.1 hg
  have e : o.tags.getD k dT = o.tags[k] := by rw [List.getD_eq_getElem?_getD, List.getElem?_eq_getElem hk]; rfl
  have := h k hk
  rw [e] at this
  rw [this]; simp
theorem c66 (m : List Obj) (s : Str) (hs : s.length ≤ 1000000000000) : PCall Try.prog 66 [.d (encMap m), .d (.str s)] fun x => x = .d (encStrs (findV m s)) := by
  refine PCall.strs ?_
  refine PCall.intro Try.tabOk Try.f66 _ Try.func66 rfl (by decide) rfl fun z => ?_
  repeat' first
    | (with_reducible refine AW.seq ?_)
    | ((with_reducible refine AW.region Try.tabOk ?_); (conv => whnf))
    | ((with_reducible refine AW.draw Try.tabOk Try.mixed ?_ ?_); (focus rfl); (conv => whnf))
    | ((with_reducible refine AW.ret ?_); (conv => whnf))
    | ((with_reducible refine AW.block ?_))
    | (with_reducible refine AW.scope ?_)
    | ((with_reducible refine AW.label ?_); (conv => whnf))
    | ((with_reducible refine AW.exit ?_); (conv => whnf))
    | ((with_reducible refine AW.skip ?_); (conv => whnf))
    | ((with_reducible refine AW.cond ?_); (conv => whnf))
    | ((with_reducible refine Own2.data ?_); (conv => whnf))
    | ((with_reducible refine ACall.id ?_); (refine PCall.call (by first | exact c26 _ | exact c34 _ hs) rfl ?_); (intro x hx; first | subst hx | (obtain ⟨l_, rfl, hl_⟩ := hx.out)); (conv => whnf))
    | ((with_reducible refine ACall.freeze rfl ?_); (conv => whnf))
    | (refine ⟨true, _, rfl, ?_⟩; (conv => whnf))
    | (refine ⟨false, .nilp, rfl, ?_⟩; (conv => whnf))
    | (refine ⟨_, _, by first | exact c26 _ | exact c34 _ hs, ?_⟩; (conv => whnf))
    | ((with_reducible apply Or.inl); (refine ⟨rfl, rfl, ?_⟩); (conv => whnf))
    | (refine ⟨_, ⟨rfl, rfl⟩, ?_⟩; (conv => whnf))
    | (refine ⟨_, ⟨rfl, getM (by first | omega | (simp; omega))⟩, ?_⟩; (conv => whnf))
    | ((with_reducible apply Or.inl); apply Exists.intro; apply And.intro; (focus (intro hg; (conv => whnf); (repeat' first | (with_reducible exact ⟨rfl, rfl⟩) | ((with_reducible refine Own2.data ?_); (conv => whnf)) | (refine ⟨true, _, rfl, ?_⟩; (conv => whnf)) | (refine ⟨false, .nilp, rfl, ?_⟩; (conv => whnf)) | (refine ⟨_, _, by first | exact c26 _ | exact c34 _ hs, ?_⟩; (conv => whnf)) | ((with_reducible apply Or.inl); (refine ⟨rfl, rfl, ?_⟩); (conv => whnf)) | ((with_reducible apply Or.inl); (with_reducible apply And.intro); (focus (simp only [rng]; omega)); (conv => whnf)) | (refine ⟨by first | omega | (simp at hg ⊢; omega) | (simp_all; first | done | fail), ?_⟩; (conv => whnf)) | ((with_reducible refine ACall.id ?_); (refine PCall.call (by first | exact c26 _ | exact c34 _ hs) rfl ?_); (intro x hx; first | subst hx | (obtain ⟨l_, rfl, hl_⟩ := hx.out)); (conv => whnf)) | (intro hlen; (conv => whnf))); done)); (conv => whnf))
    | (apply Exists.intro; apply And.intro; (focus (first | (intro hg; (conv => whnf)) | (conv => whnf)); (repeat' first | (with_reducible exact ⟨rfl, rfl⟩) | ((with_reducible refine Own2.data ?_); (conv => whnf)) | (refine ⟨true, _, rfl, ?_⟩; (conv => whnf)) | (refine ⟨false, .nilp, rfl, ?_⟩; (conv => whnf)) | (refine ⟨_, _, by first | exact c26 _ | exact c34 _ hs, ?_⟩; (conv => whnf)) | ((with_reducible apply Or.inl); (refine ⟨rfl, rfl, ?_⟩); (conv => whnf)) | ((with_reducible apply Or.inl); (with_reducible apply And.intro); (focus (simp only [rng]; omega)); (conv => whnf)) | (refine ⟨by first | omega | (simp at hg ⊢; omega) | (simp_all; first | done | fail), ?_⟩; (conv => whnf)) | ((with_reducible refine ACall.id ?_); (refine PCall.call (by first | exact c26 _ | exact c34 _ hs) rfl ?_); (intro x hx; first | subst hx | (obtain ⟨l_, rfl, hl_⟩ := hx.out)); (conv => whnf)) | (intro hlen; (conv => whnf))); done); (conv => whnf))
    | ((with_reducible apply Or.inl); (with_reducible apply And.intro); (focus (simp only [rng]; omega)); (conv => whnf))
    | ((with_reducible apply Or.inr); (with_reducible apply And.intro) <;> (intro hb; (try simp at hb); (try (exfalso; first | omega | (simp_all; first | done | fail))); (try (conv => whnf))))
    | ((with_reducible apply And.intro); (focus (first | omega | (exact True.intro) | (simp; omega) | (exact Nat.le_of_ble_eq_true rfl) | (exact ⟨rfl, Nat.le_of_ble_eq_true rfl⟩) | (exact ⟨Nat.le_of_ble_eq_true rfl, Nat.le_of_ble_eq_true rfl⟩) | (intro hg; first | (simp; first | done | fail) | (simp at hg ⊢; exact hg) | (simp at hg; exact hg) | exact hg))); (conv => whnf))
    | ((with_reducible apply And.intro) <;> (intro hb; (try simp at hb); (try (exfalso; first | omega | (simp_all; first | done | fail))); (try (conv => whnf))))
    | (intro hlen; (conv => whnf))
    | ((with_reducible refine And.intro (Side.out ?_) ?_); rotate_left; (conv => whnf); rotate_right)
  · refine .nil ?_
    rcases hb with hb | hb <;> simp [findV, hb]
  obtain ⟨hmb, hs0⟩ := hb
  have hm : m.length ≤ 1000000 := by simp only [mapB, Bool.and_eq_true, decide_eq_true_eq] at hmb; exact hmb.2
  have hV : findV m s = findS (foldS s) m := by simp [findV, hmb, hs0]
  refine AW.loopS (X := Nat × Nat) [22, 21, 6, 5] [1, 0] (fun x => [(23, .d (.int .i64 (x.1 : Int)))]) (fun x => match x.2 with
      | 0 => [(2, .var [.d .nils] 39)]
      | v + 1 => [(2, .var [.own 9 (v + 1) 1] 39), (9, .row 9 1 ((findS (foldS s) (m.take x.1)).map .str) (v + 1))]) (fun x => match x.2 with | 0 => 3 | _ + 1 => 10)
    (fun x => x.1 ≤ m.length ∧ (x.2 = 0 ↔ findS (foldS s) (m.take x.1) = [])) (fun x => m.length - x.1) (0, 0) ⟨Nat.zero_le _, by simp [findS]⟩ (fun x _ => by rcases x with ⟨_, _ | _⟩ <;> rfl) (by refine ⟨rfl, rfl, rfl, ?_, ?_⟩ <;> repeat' (first | exact trivial | exact OLe.refl _ | exact AV.le_refl _ | apply And.intro)) ?_
  intro ⟨i, v⟩ ⟨hi, hv⟩
  dsimp only at hi hv
  have hll := findS_len (foldS s) (m.take i)
  rw [List.length_take] at hll
  cases v with
  | zero =>
    have hnil : findS (foldS s) (m.take i) = [] := hv.1 rfl
    repeat' first
      | (with_reducible refine AW.seq ?_)
      | ((with_reducible refine AW.region Try.tabOk ?_); (conv => whnf))
      | ((with_reducible refine AW.draw Try.tabOk Try.mixed ?_ ?_); (focus rfl); (conv => whnf))
      | ((with_reducible refine AW.ret ?_); (conv => whnf))
      | ((with_reducible refine AW.block ?_))
      | (with_reducible refine AW.scope ?_)
      | ((with_reducible refine AW.label ?_); (conv => whnf))
      | ((with_reducible refine AW.exit ?_); (conv => whnf))
      | ((with_reducible refine AW.skip ?_); (conv => whnf))
      | ((with_reducible refine AW.cond ?_); (conv => whnf))
      | ((with_reducible refine AW.rangeFunc rfl ?_); intro fn_; (conv => whnf); (refine And.intro ⟨Try.f103, Try.func103, by decide, rfl⟩ ?_); (refine ACall.intro Try.tabOk Try.f103 _ Try.func103 rfl (by decide) rfl ?_); intro z_)
      | ((with_reducible refine AYield.id ?_); (refine AYield.intro rfl rfl rfl ?_); intro z_)
      | ((with_reducible refine Own2.data ?_); (conv => whnf))
      | ((with_reducible refine ACall.id ?_); (refine PCall.call (by first | exact c26 _ | exact c34 _ hs) rfl ?_); (intro x hx; first | subst hx | (obtain ⟨l_, rfl, hl_⟩ := hx.out)); (conv => whnf))
      | ((with_reducible refine ACall.id ?_); (refine ACall.intro Try.tabOk Try.f75 _ Try.func75 rfl (by decide) rfl ?_); intro z_)
      | ((with_reducible refine ACall.freeze rfl ?_); (conv => whnf))
      | (refine ⟨true, _, rfl, ?_⟩; (conv => whnf))
      | (refine ⟨false, .nilp, rfl, ?_⟩; (conv => whnf))
      | (refine ⟨_, _, by first | exact c26 _ | exact c34 _ hs, ?_⟩; (conv => whnf))
      | ((with_reducible apply Or.inl); (refine ⟨rfl, rfl, ?_⟩); (conv => whnf))
      | (refine ⟨_, ⟨rfl, rfl⟩, ?_⟩; (conv => whnf))
      | (refine ⟨_, ⟨rfl, getM (by first | omega | (simp; omega))⟩, ?_⟩; (conv => whnf))
      | ((with_reducible apply Or.inl); apply Exists.intro; apply And.intro; (focus (intro hg; (conv => whnf); (repeat' first | (with_reducible exact ⟨rfl, rfl⟩) | ((with_reducible refine Own2.data ?_); (conv => whnf)) | (refine ⟨true, _, rfl, ?_⟩; (conv => whnf)) | (refine ⟨false, .nilp, rfl, ?_⟩; (conv => whnf)) | (refine ⟨_, _, by first | exact c26 _ | exact c34 _ hs, ?_⟩; (conv => whnf)) | ((with_reducible apply Or.inl); (refine ⟨rfl, rfl, ?_⟩); (conv => whnf)) | ((with_reducible apply Or.inl); (with_reducible apply And.intro); (focus (simp only [rng]; omega)); (conv => whnf)) | (refine ⟨by first | omega | (simp at hg ⊢; omega) | (simp_all; first | done | fail), ?_⟩; (conv => whnf)) | ((with_reducible refine ACall.id ?_); (refine PCall.call (by first | exact c26 _ | exact c34 _ hs) rfl ?_); (intro x hx; first | subst hx | (obtain ⟨l_, rfl, hl_⟩ := hx.out)); (conv => whnf)) | (intro hlen; (conv => whnf))); done)); (conv => whnf))
      | (apply Exists.intro; apply And.intro; (focus (first | (intro hg; (conv => whnf)) | (conv => whnf)); (repeat' first | (with_reducible exact ⟨rfl, rfl⟩) | ((with_reducible refine Own2.data ?_); (conv => whnf)) | (refine ⟨true, _, rfl, ?_⟩; (conv => whnf)) | (refine ⟨false, .nilp, rfl, ?_⟩; (conv => whnf)) | (refine ⟨_, _, by first | exact c26 _ | exact c34 _ hs, ?_⟩; (conv => whnf)) | ((with_reducible apply Or.inl); (refine ⟨rfl, rfl, ?_⟩); (conv => whnf)) | ((with_reducible apply Or.inl); (with_reducible apply And.intro); (focus (simp only [rng]; omega)); (conv => whnf)) | (refine ⟨by first | omega | (simp at hg ⊢; omega) | (simp_all; first | done | fail), ?_⟩; (conv => whnf)) | ((with_reducible refine ACall.id ?_); (refine PCall.call (by first | exact c26 _ | exact c34 _ hs) rfl ?_); (intro x hx; first | subst hx | (obtain ⟨l_, rfl, hl_⟩ := hx.out)); (conv => whnf)) | (intro hlen; (conv => whnf))); done); (conv => whnf))
      | ((with_reducible apply Or.inl); (with_reducible apply And.intro); (focus (simp only [rng]; omega)); (conv => whnf))
      | ((with_reducible apply Or.inr); (with_reducible apply And.intro) <;> (intro hb; (try simp at hb); (try (exfalso; first | omega | (simp_all; first | done | fail))); (try (conv => whnf))))
      | ((with_reducible apply And.intro); (focus (first | omega | (exact True.intro) | (simp; omega) | (exact Nat.le_of_ble_eq_true rfl) | (exact ⟨rfl, Nat.le_of_ble_eq_true rfl⟩) | (exact ⟨Nat.le_of_ble_eq_true rfl, Nat.le_of_ble_eq_true rfl⟩) | (intro hg; first | (simp; first | done | fail) | (simp at hg ⊢; exact hg) | (simp at hg; exact hg) | exact hg))); (conv => whnf))
      | ((with_reducible apply And.intro) <;> (intro hb; (try simp at hb); (try (exfalso; first | omega | (simp_all; first | done | fail))); (try (conv => whnf))))
      | (intro hlen; (conv => whnf))
      | ((with_reducible refine And.intro (Side.out ?_) ?_); rotate_left; (conv => whnf); rotate_right)
    · have hlT : (m[i]?.getD default).tags.length ≤ 60 := by rw [← List.getD_eq_getElem?_getD]; exact tagsB_len (mapB_tags hmb (by assumption))
      refine AW.loopS (X := Nat) [8, 7, 0, 1] [5, 4, 3, 2, 1, 0] (fun j => [(9, .d (.int .i64 (j : Int)))]) (fun _ => []) (fun _ => 6)
        (fun j => j ≤ (m.getD i default).tags.length ∧ ∀ k, k < j → findP (foldS s) ((m.getD i default).tags.getD k dT) = false) (fun j => (m.getD i default).tags.length - j) 0 ⟨Nat.zero_le _, fun k h => absurd h (Nat.not_lt_zero k)⟩ (fun _ _ => rfl) (by refine ⟨rfl, rfl, rfl, ?_, ?_⟩ <;> repeat' (first | exact trivial | exact OLe.refl _ | exact AV.le_refl _ | apply And.intro)) ?_
      intro j ⟨hj, hw⟩
      have h34 : ((m.getD i default).tags.getD j dT).2.length ≤ 1000000000000 := tagsB_val (mapB_tags hmb (by assumption)) j
      repeat' first
        | (with_reducible refine AW.seq ?_)
        | ((with_reducible refine AW.region Try.tabOk ?_); (conv => whnf))
        | ((with_reducible refine AW.draw Try.tabOk Try.mixed ?_ ?_); (focus rfl); (conv => whnf))
        | ((with_reducible refine AW.ret ?_); (conv => whnf))
        | ((with_reducible refine AW.block ?_))
        | (with_reducible refine AW.scope ?_)
        | ((with_reducible refine AW.label ?_); (conv => whnf))
        | ((with_reducible refine AW.exit ?_); (conv => whnf))
        | ((with_reducible refine AW.skip ?_); (conv => whnf))
        | ((with_reducible refine AW.cond ?_); (conv => whnf))
        | ((with_reducible refine AW.rangeFunc rfl ?_); intro fn_; (conv => whnf); (refine And.intro ⟨Try.f103, Try.func103, by decide, rfl⟩ ?_); (refine ACall.intro Try.tabOk Try.f103 _ Try.func103 rfl (by decide) rfl ?_); intro z_)
        | ((with_reducible refine AYield.id ?_); (refine AYield.intro rfl rfl rfl ?_); intro z_)
        | ((with_reducible refine Own2.data ?_); (conv => whnf))
        | ((with_reducible refine ACall.id ?_); (refine PCall.call (by first | exact c104 _ | exact c34 _ h34) rfl ?_); (intro x hx; first | subst hx | (obtain ⟨l_, rfl, hl_⟩ := hx.out)); (conv => whnf))
        | ((with_reducible refine ACall.freeze rfl ?_); (conv => whnf))
        | (refine ⟨true, _, rfl, ?_⟩; (conv => whnf))
        | (refine ⟨false, .nilp, rfl, ?_⟩; (conv => whnf))
        | (refine ⟨_, _, by first | exact c104 _ | exact c34 _ h34, ?_⟩; (conv => whnf))
        | ((with_reducible apply Or.inl); (refine ⟨rfl, rfl, ?_⟩); (conv => whnf))
        | (refine ⟨_, ⟨rfl, rfl⟩, ?_⟩; (conv => whnf))
        | (refine ⟨_, ⟨rfl, getM (by first | omega | (simp; omega))⟩, ?_⟩; (conv => whnf))
        | ((with_reducible apply Or.inl); apply Exists.intro; apply And.intro; (focus (intro hg; (conv => whnf); (repeat' first | (with_reducible exact ⟨rfl, rfl⟩) | ((with_reducible refine Own2.data ?_); (conv => whnf)) | (refine ⟨true, _, rfl, ?_⟩; (conv => whnf)) | (refine ⟨false, .nilp, rfl, ?_⟩; (conv => whnf)) | (refine ⟨_, _, by first | exact c104 _ | exact c34 _ h34, ?_⟩; (conv => whnf)) | ((with_reducible apply Or.inl); (refine ⟨rfl, rfl, ?_⟩); (conv => whnf)) | ((with_reducible apply Or.inl); (with_reducible apply And.intro); (focus (simp only [rng]; omega)); (conv => whnf)) | (refine ⟨by first | omega | (simp at hg ⊢; omega) | (simp_all; first | done | fail), ?_⟩; (conv => whnf)) | ((with_reducible refine ACall.id ?_); (refine PCall.call (by first | exact c104 _ | exact c34 _ h34) rfl ?_); (intro x hx; first | subst hx | (obtain ⟨l_, rfl, hl_⟩ := hx.out)); (conv => whnf)) | (intro hlen; (conv => whnf))); done)); (conv => whnf))
        | (apply Exists.intro; apply And.intro; (focus (first | (intro hg; (conv => whnf)) | (conv => whnf)); (repeat' first | (with_reducible exact ⟨rfl, rfl⟩) | ((with_reducible refine Own2.data ?_); (conv => whnf)) | (refine ⟨true, _, rfl, ?_⟩; (conv => whnf)) | (refine ⟨false, .nilp, rfl, ?_⟩; (conv => whnf)) | (refine ⟨_, _, by first | exact c104 _ | exact c34 _ h34, ?_⟩; (conv => whnf)) | ((with_reducible apply Or.inl); (refine ⟨rfl, rfl, ?_⟩); (conv => whnf)) | ((with_reducible apply Or.inl); (with_reducible apply And.intro); (focus (simp only [rng]; omega)); (conv => whnf)) | (refine ⟨by first | omega | (simp at hg ⊢; omega) | (simp_all; first | done | fail), ?_⟩; (conv => whnf)) | ((with_reducible refine ACall.id ?_); (refine PCall.call (by first | exact c104 _ | exact c34 _ h34) rfl ?_); (intro x hx; first | subst hx | (obtain ⟨l_, rfl, hl_⟩ := hx.out)); (conv => whnf)) | (intro hlen; (conv => whnf))); done); (conv => whnf))
        | ((with_reducible apply Or.inl); (with_reducible apply And.intro); (focus (simp only [rng]; omega)); (conv => whnf))
        | ((with_reducible apply Or.inr); (with_reducible apply And.intro) <;> (intro hb; (try simp at hb); (try (exfalso; first | omega | (simp_all; first | done | fail))); (try (conv => whnf))))
        | ((with_reducible apply And.intro); (focus (first | omega | (exact True.intro) | (simp; omega) | (exact Nat.le_of_ble_eq_true rfl) | (exact ⟨rfl, Nat.le_of_ble_eq_true rfl⟩) | (exact ⟨Nat.le_of_ble_eq_true rfl, Nat.le_of_ble_eq_true rfl⟩) | (intro hg; first | (simp; first | done | fail) | (simp at hg ⊢; exact hg) | (simp at hg; exact hg) | exact hg))); (conv => whnf))
        | ((with_reducible apply And.intro) <;> (intro hb; (try simp at hb); (try (exfalso; first | omega | (simp_all; first | done | fail))); (try (conv => whnf))))
        | (intro hlen; (conv => whnf))
        | ((with_reducible refine And.intro (Side.out ?_) ?_); rotate_left; (conv => whnf); rotate_right)
      all_goals have hit : i < m.length := by assumption
      all_goals have hst := findS_step (t := foldS s) hit
      · have hlit : j < (m[i]?.getD default).tags.length := by assumption
        have h1 : (lang ((m[i]?.getD default).tags[j]?.getD ([], [])).1).isSome = true := by assumption
        have h2 : foldS ((m[i]?.getD default).tags[j]?.getD ([], [])).2 = foldS s := by assumption
        simp only [← List.getD_eq_getElem?_getD] at hlit h1 h2
        have hf : findB (foldS s) (m.getD i default) = true := findB_yes hlit (by unfold findP; rw [show (lang ((m.getD i default).tags.getD j dT).1).isSome = true from h1, show foldS ((m.getD i default).tags.getD j dT).2 = foldS s from h2]; simp)
        rw [hf, if_pos rfl] at hst
        exact .mk (i + 1, 1) ⟨hit, by dsimp only; rw [hst]; simp⟩ (by show m.length - (i + 1) < m.length - i; omega) ⟨rfl, rfl, rfl, ⟨OLe.refl _, OLe.of (by show AObj.row 9 1 [D.str (m.getD i default).id] 1 = AObj.row 9 1 ((findS (foldS s) (m.take (i + 1))).map D.str) (1); rw [hst, hnil]; rfl), OLe.refl _, OLe.refl _, trivial⟩, ⟨AV.le_refl _, AV.le_refl _, AV.le_refl _, AV.le_refl _, AV.le_refl _, trivial⟩, rfl⟩
      · have hlit : j < (m[i]?.getD default).tags.length := by assumption
        have h2 : ¬foldS ((m[i]?.getD default).tags[j]?.getD ([], [])).2 = foldS s := by assumption
        simp only [← List.getD_eq_getElem?_getD] at hlit h2
        exact .mk (j + 1) ⟨hlit, fun k hk => by
          by_cases e : k = j
          · subst e; unfold findP; rw [decide_eq_false (show ¬foldS ((m.getD i default).tags.getD k dT).2 = foldS s from h2), Bool.and_false]
          · exact hw k (by omega)⟩ (by show (m.getD i default).tags.length - (j + 1) < (m.getD i default).tags.length - j; omega) (by refine ⟨rfl, rfl, rfl, ?_, ?_, rfl⟩ <;> repeat' (first | exact trivial | exact OLe.refl _ | exact AV.le_refl _ | apply And.intro))
      · have hlit : j < (m[i]?.getD default).tags.length := by assumption
        have h1 : lang ((m[i]?.getD default).tags[j]?.getD ([], [])).1 = none := by assumption
        simp only [← List.getD_eq_getElem?_getD] at hlit h1
        exact .mk (j + 1) ⟨hlit, fun k hk => by
          by_cases e : k = j
          · subst e; unfold findP; rw [show lang ((m.getD i default).tags.getD k dT).1 = none from h1]; rfl
          · exact hw k (by omega)⟩ (by show (m.getD i default).tags.length - (j + 1) < (m.getD i default).tags.length - j; omega) (by refine ⟨rfl, rfl, rfl, ?_, ?_, rfl⟩ <;> repeat' (first | exact trivial | exact OLe.refl _ | exact AV.le_refl _ | apply And.intro))
      · have hlit : (m[i]?.getD default).tags.length ≤ j := by assumption
        simp only [← List.getD_eq_getElem?_getD] at hlit
        have hf : findB (foldS s) (m.getD i default) = false := findB_no fun k hk => hw k (by omega)
        rw [hf, if_neg (by simp), List.append_nil] at hst
        exact .mk (i + 1, 0) ⟨hit, by dsimp only; rw [hst, hnil]; simp⟩ (by show m.length - (i + 1) < m.length - i; omega) (by refine ⟨rfl, rfl, rfl, ?_, ?_, rfl⟩ <;> repeat' (first | exact trivial | exact OLe.refl _ | exact AV.le_refl _ | apply And.intro))
    · have he : i = m.length := by omega
      have hnil2 : findS (foldS s) m = [] := by have := hv.1 rfl; rw [he, List.take_length] at this; exact this
      exact .nil (by rw [hV, hnil2]; rfl)
  | succ v =>
    have hne : findS (foldS s) (m.take i) ≠ [] := fun h => by have := hv.2 h; omega
    repeat' first
      | (with_reducible refine AW.seq ?_)
      | ((with_reducible refine AW.region Try.tabOk ?_); (conv => whnf))
      | ((with_reducible refine AW.draw Try.tabOk Try.mixed ?_ ?_); (focus rfl); (conv => whnf))
      | ((with_reducible refine AW.ret ?_); (conv => whnf))
      | ((with_reducible refine AW.block ?_))
      | (with_reducible refine AW.scope ?_)
      | ((with_reducible refine AW.label ?_); (conv => whnf))
      | ((with_reducible refine AW.exit ?_); (conv => whnf))
      | ((with_reducible refine AW.skip ?_); (conv => whnf))
      | ((with_reducible refine AW.cond ?_); (conv => whnf))
      | ((with_reducible refine AW.rangeFunc rfl ?_); intro fn_; (conv => whnf); (refine And.intro ⟨Try.f103, Try.func103, by decide, rfl⟩ ?_); (refine ACall.intro Try.tabOk Try.f103 _ Try.func103 rfl (by decide) rfl ?_); intro z_)
      | ((with_reducible refine AYield.id ?_); (refine AYield.intro rfl rfl rfl ?_); intro z_)
      | ((with_reducible refine Own2.data ?_); (conv => whnf))
      | ((with_reducible refine ACall.id ?_); (refine PCall.call (by first | exact c26 _ | exact c34 _ hs) rfl ?_); (intro x hx; first | subst hx | (obtain ⟨l_, rfl, hl_⟩ := hx.out)); (conv => whnf))
      | ((with_reducible refine ACall.id ?_); (refine ACall.intro Try.tabOk Try.f75 _ Try.func75 rfl (by decide) rfl ?_); intro z_)
      | ((with_reducible refine ACall.freeze rfl ?_); (conv => whnf))
      | (refine ⟨true, _, rfl, ?_⟩; (conv => whnf))
      | (refine ⟨false, .nilp, rfl, ?_⟩; (conv => whnf))
      | (refine ⟨_, _, by first | exact c26 _ | exact c34 _ hs, ?_⟩; (conv => whnf))
      | ((with_reducible apply Or.inl); (refine ⟨rfl, rfl, ?_⟩); (conv => whnf))
      | (refine ⟨_, ⟨rfl, rfl⟩, ?_⟩; (conv => whnf))
      | (refine ⟨_, ⟨rfl, getM (by first | omega | (simp; omega))⟩, ?_⟩; (conv => whnf))
      | ((with_reducible apply Or.inl); apply Exists.intro; apply And.intro; (focus (intro hg; (conv => whnf); (repeat' first | (with_reducible exact ⟨rfl, rfl⟩) | ((with_reducible refine Own2.data ?_); (conv => whnf)) | (refine ⟨true, _, rfl, ?_⟩; (conv => whnf)) | (refine ⟨false, .nilp, rfl, ?_⟩; (conv => whnf)) | (refine ⟨_, _, by first | exact c26 _ | exact c34 _ hs, ?_⟩; (conv => whnf)) | ((with_reducible apply Or.inl); (refine ⟨rfl, rfl, ?_⟩); (conv => whnf)) | ((with_reducible apply Or.inl); (with_reducible apply And.intro); (focus (simp only [rng]; omega)); (conv => whnf)) | (refine ⟨by first | omega | (simp at hg ⊢; omega) | (simp_all; first | done | fail), ?_⟩; (conv => whnf)) | ((with_reducible refine ACall.id ?_); (refine PCall.call (by first | exact c26 _ | exact c34 _ hs) rfl ?_); (intro x hx; first | subst hx | (obtain ⟨l_, rfl, hl_⟩ := hx.out)); (conv => whnf)) | (intro hlen; (conv => whnf))); done)); (conv => whnf))
      | (apply Exists.intro; apply And.intro; (focus (first | (intro hg; (conv => whnf)) | (conv => whnf)); (repeat' first | (with_reducible exact ⟨rfl, rfl⟩) | ((with_reducible refine Own2.data ?_); (conv => whnf)) | (refine ⟨true, _, rfl, ?_⟩; (conv => whnf)) | (refine ⟨false, .nilp, rfl, ?_⟩; (conv => whnf)) | (refine ⟨_, _, by first | exact c26 _ | exact c34 _ hs, ?_⟩; (conv => whnf)) | ((with_reducible apply Or.inl); (refine ⟨rfl, rfl, ?_⟩); (conv => whnf)) | ((with_reducible apply Or.inl); (with_reducible apply And.intro); (focus (simp only [rng]; omega)); (conv => whnf)) | (refine ⟨by first | omega | (simp at hg ⊢; omega) | (simp_all; first | done | fail), ?_⟩; (conv => whnf)) | ((with_reducible refine ACall.id ?_); (refine PCall.call (by first | exact c26 _ | exact c34 _ hs) rfl ?_); (intro x hx; first | subst hx | (obtain ⟨l_, rfl, hl_⟩ := hx.out)); (conv => whnf)) | (intro hlen; (conv => whnf))); done); (conv => whnf))
      | ((with_reducible apply Or.inl); (with_reducible apply And.intro); (focus (simp only [rng]; omega)); (conv => whnf))
      | ((with_reducible apply Or.inr); (with_reducible apply And.intro) <;> (intro hb; (try simp at hb); (try (exfalso; first | omega | (simp_all; first | done | fail))); (try (conv => whnf))))
      | ((with_reducible apply And.intro); (focus (first | omega | (exact True.intro) | (simp; omega) | (exact Nat.le_of_ble_eq_true rfl) | (exact ⟨rfl, Nat.le_of_ble_eq_true rfl⟩) | (exact ⟨Nat.le_of_ble_eq_true rfl, Nat.le_of_ble_eq_true rfl⟩) | (intro hg; first | (simp; first | done | fail) | (simp at hg ⊢; exact hg) | (simp at hg; exact hg) | exact hg))); (conv => whnf))
      | ((with_reducible apply And.intro) <;> (intro hb; (try simp at hb); (try (exfalso; first | omega | (simp_all; first | done | fail))); (try (conv => whnf))))
      | (intro hlen; (conv => whnf))
      | ((with_reducible refine And.intro (Side.out ?_) ?_); rotate_left; (conv => whnf); rotate_right)
    · have hlT : (m[i]?.getD default).tags.length ≤ 60 := by rw [← List.getD_eq_getElem?_getD]; exact tagsB_len (mapB_tags hmb (by assumption))
      refine AW.loopS (X := Nat) [8, 7, 0, 1] [12, 11, 10, 9, 2, 1, 0] (fun j => [(9, .d (.int .i64 (j : Int)))]) (fun _ => []) (fun _ => 13)
        (fun j => j ≤ (m.getD i default).tags.length ∧ ∀ k, k < j → findP (foldS s) ((m.getD i default).tags.getD k dT) = false) (fun j => (m.getD i default).tags.length - j) 0 ⟨Nat.zero_le _, fun k h => absurd h (Nat.not_lt_zero k)⟩ (fun _ _ => rfl) (by refine ⟨rfl, rfl, rfl, ?_, ?_⟩ <;> repeat' (first | exact trivial | exact OLe.refl _ | exact AV.le_refl _ | apply And.intro)) ?_
      intro j ⟨hj, hw⟩
      have h34 : ((m.getD i default).tags.getD j dT).2.length ≤ 1000000000000 := tagsB_val (mapB_tags hmb (by assumption)) j
      repeat' first
        | (with_reducible refine AW.seq ?_)
        | ((with_reducible refine AW.region Try.tabOk ?_); (conv => whnf))
        | ((with_reducible refine AW.draw Try.tabOk Try.mixed ?_ ?_); (focus rfl); (conv => whnf))
        | ((with_reducible refine AW.ret ?_); (conv => whnf))
        | ((with_reducible refine AW.block ?_))
        | (with_reducible refine AW.scope ?_)
        | ((with_reducible refine AW.label ?_); (conv => whnf))
        | ((with_reducible refine AW.exit ?_); (conv => whnf))
        | ((with_reducible refine AW.skip ?_); (conv => whnf))
        | ((with_reducible refine AW.cond ?_); (conv => whnf))
        | ((with_reducible refine AW.rangeFunc rfl ?_); intro fn_; (conv => whnf); (refine And.intro ⟨Try.f103, Try.func103, by decide, rfl⟩ ?_); (refine ACall.intro Try.tabOk Try.f103 _ Try.func103 rfl (by decide) rfl ?_); intro z_)
        | ((with_reducible refine AYield.id ?_); (refine AYield.intro rfl rfl rfl ?_); intro z_)
        | ((with_reducible refine Own2.data ?_); (conv => whnf))
        | ((with_reducible refine ACall.id ?_); (refine PCall.call (by first | exact c104 _ | exact c34 _ h34) rfl ?_); (intro x hx; first | subst hx | (obtain ⟨l_, rfl, hl_⟩ := hx.out)); (conv => whnf))
        | ((with_reducible refine ACall.freeze rfl ?_); (conv => whnf))
        | (refine ⟨true, _, rfl, ?_⟩; (conv => whnf))
        | (refine ⟨false, .nilp, rfl, ?_⟩; (conv => whnf))
        | (refine ⟨_, _, by first | exact c104 _ | exact c34 _ h34, ?_⟩; (conv => whnf))
        | ((with_reducible apply Or.inl); (refine ⟨rfl, rfl, ?_⟩); (conv => whnf))
        | (refine ⟨_, ⟨rfl, rfl⟩, ?_⟩; (conv => whnf))
        | (refine ⟨_, ⟨rfl, getM (by first | omega | (simp; omega))⟩, ?_⟩; (conv => whnf))
        | ((with_reducible apply Or.inl); apply Exists.intro; apply And.intro; (focus (intro hg; (conv => whnf); (repeat' first | (with_reducible exact ⟨rfl, rfl⟩) | ((with_reducible refine Own2.data ?_); (conv => whnf)) | (refine ⟨true, _, rfl, ?_⟩; (conv => whnf)) | (refine ⟨false, .nilp, rfl, ?_⟩; (conv => whnf)) | (refine ⟨_, _, by first | exact c104 _ | exact c34 _ h34, ?_⟩; (conv => whnf)) | ((with_reducible apply Or.inl); (refine ⟨rfl, rfl, ?_⟩); (conv => whnf)) | ((with_reducible apply Or.inl); (with_reducible apply And.intro); (focus (simp only [rng]; omega)); (conv => whnf)) | (refine ⟨by first | omega | (simp at hg ⊢; omega) | (simp_all; first | done | fail), ?_⟩; (conv => whnf)) | ((with_reducible refine ACall.id ?_); (refine PCall.call (by first | exact c104 _ | exact c34 _ h34) rfl ?_); (intro x hx; first | subst hx | (obtain ⟨l_, rfl, hl_⟩ := hx.out)); (conv => whnf)) | (intro hlen; (conv => whnf))); done)); (conv => whnf))
        | (apply Exists.intro; apply And.intro; (focus (first | (intro hg; (conv => whnf)) | (conv => whnf)); (repeat' first | (with_reducible exact ⟨rfl, rfl⟩) | ((with_reducible refine Own2.data ?_); (conv => whnf)) | (refine ⟨true, _, rfl, ?_⟩; (conv => whnf)) | (refine ⟨false, .nilp, rfl, ?_⟩; (conv => whnf)) | (refine ⟨_, _, by first | exact c104 _ | exact c34 _ h34, ?_⟩; (conv => whnf)) | ((with_reducible apply Or.inl); (refine ⟨rfl, rfl, ?_⟩); (conv => whnf)) | ((with_reducible apply Or.inl); (with_reducible apply And.intro); (focus (simp only [rng]; omega)); (conv => whnf)) | (refine ⟨by first | omega | (simp at hg ⊢; omega) | (simp_all; first | done | fail), ?_⟩; (conv => whnf)) | ((with_reducible refine ACall.id ?_); (refine PCall.call (by first | exact c104 _ | exact c34 _ h34) rfl ?_); (intro x hx; first | subst hx | (obtain ⟨l_, rfl, hl_⟩ := hx.out)); (conv => whnf)) | (intro hlen; (conv => whnf))); done); (conv => whnf))
        | ((with_reducible apply Or.inl); (with_reducible apply And.intro); (focus (simp only [rng]; omega)); (conv => whnf))
        | ((with_reducible apply Or.inr); (with_reducible apply And.intro) <;> (intro hb; (try simp at hb); (try (exfalso; first | omega | (simp_all; first | done | fail))); (try (conv => whnf))))
        | ((with_reducible apply And.intro); (focus (first | omega | (exact True.intro) | (simp; omega) | (exact Nat.le_of_ble_eq_true rfl) | (exact ⟨rfl, Nat.le_of_ble_eq_true rfl⟩) | (exact ⟨Nat.le_of_ble_eq_true rfl, Nat.le_of_ble_eq_true rfl⟩) | (intro hg; first | (simp; first | done | fail) | (simp at hg ⊢; exact hg) | (simp at hg; exact hg) | exact hg))); (conv => whnf))
        | ((with_reducible apply And.intro) <;> (intro hb; (try simp at hb); (try (exfalso; first | omega | (simp_all; first | done | fail))); (try (conv => whnf))))
        | (intro hlen; (conv => whnf))
        | ((with_reducible refine And.intro (Side.out ?_) ?_); rotate_left; (conv => whnf); rotate_right)
      all_goals have hit : i < m.length := by assumption
      all_goals have hst := findS_step (t := foldS s) hit
      · exact ⟨rfl, by simp; omega, by simp [maxLen]; omega⟩
      · have hlit : j < (m[i]?.getD default).tags.length := by assumption
        have h1 : (lang ((m[i]?.getD default).tags[j]?.getD ([], [])).1).isSome = true := by assumption
        have h2 : foldS ((m[i]?.getD default).tags[j]?.getD ([], [])).2 = foldS s := by assumption
        simp only [← List.getD_eq_getElem?_getD] at hlit h1 h2
        have hf : findB (foldS s) (m.getD i default) = true := findB_yes hlit (by unfold findP; rw [show (lang ((m.getD i default).tags.getD j dT).1).isSome = true from h1, show foldS ((m.getD i default).tags.getD j dT).2 = foldS s from h2]; simp)
        rw [hf, if_pos rfl] at hst
        exact .mk (i + 1, v + 2) ⟨hit, by dsimp only; rw [hst]; simp⟩ (by show m.length - (i + 1) < m.length - i; omega) ⟨rfl, rfl, rfl, ⟨OLe.refl _, OLe.of (by show AObj.row 9 1 ((findS (foldS s) (m.take i)).map D.str ++ [D.str (m.getD i default).id]) (v + 2) = AObj.row 9 1 ((findS (foldS s) (m.take (i + 1))).map D.str) (v + 2); rw [hst]; simp), OLe.refl _, OLe.refl _, trivial⟩, ⟨AV.le_refl _, AV.le_refl _, AV.le_refl _, AV.le_refl _, AV.le_refl _, trivial⟩, rfl⟩
      · have hlit : j < (m[i]?.getD default).tags.length := by assumption
        have h2 : ¬foldS ((m[i]?.getD default).tags[j]?.getD ([], [])).2 = foldS s := by assumption
        simp only [← List.getD_eq_getElem?_getD] at hlit h2
        exact .mk (j + 1) ⟨hlit, fun k hk => by
          by_cases e : k = j
          · subst e; unfold findP; rw [decide_eq_false (show ¬foldS ((m.getD i default).tags.getD k dT).2 = foldS s from h2), Bool.and_false]
          · exact hw k (by omega)⟩ (by show (m.getD i default).tags.length - (j + 1) < (m.getD i default).tags.length - j; omega) (by refine ⟨rfl, rfl, rfl, ?_, ?_, rfl⟩ <;> repeat' (first | exact trivial | exact OLe.refl _ | exact AV.le_refl _ | apply And.intro))
      · have hlit : j < (m[i]?.getD default).tags.length := by assumption
        have h1 : lang ((m[i]?.getD default).tags[j]?.getD ([], [])).1 = none := by assumption
        simp only [← List.getD_eq_getElem?_getD] at hlit h1
        exact .mk (j + 1) ⟨hlit, fun k hk => by
          by_cases e : k = j
          · subst e; unfold findP; rw [show lang ((m.getD i default).tags.getD k dT).1 = none from h1]; rfl
          · exact hw k (by omega)⟩ (by show (m.getD i default).tags.length - (j + 1) < (m.getD i default).tags.length - j; omega) (by refine ⟨rfl, rfl, rfl, ?_, ?_, rfl⟩ <;> repeat' (first | exact trivial | exact OLe.refl _ | exact AV.le_refl _ | apply And.intro))
      · have hlit : (m[i]?.getD default).tags.length ≤ j := by assumption
        simp only [← List.getD_eq_getElem?_getD] at hlit
        have hf : findB (foldS s) (m.getD i default) = false := findB_no fun k hk => hw k (by omega)
        rw [hf, if_neg (by simp), List.append_nil] at hst
        exact .mk (i + 1, v + 1) ⟨hit, by dsimp only; rw [hst]; simp [hne]⟩ (by show m.length - (i + 1) < m.length - i; omega) ⟨rfl, rfl, rfl, ⟨OLe.refl _, OLe.of (by show AObj.row 9 1 ((findS (foldS s) (m.take i)).map D.str) (v + 1) = AObj.row 9 1 ((findS (foldS s) (m.take (i + 1))).map D.str) (v + 1); rw [hst]), OLe.refl _, OLe.refl _, trivial⟩, ⟨AV.le_refl _, AV.le_refl _, AV.le_refl _, AV.le_refl _, AV.le_refl _, trivial⟩, rfl⟩
    · have he : i = m.length := by omega
      rw [hV]
      subst he
      show SlRes 1 _ (.d (.list 1 ((findS (foldS s) (m.take m.length)).map D.str)))
      rw [List.take_length]; exact .row
end Go.Proofs
end
section
/- Law 18: the head. -/
namespace Go.Proofs
open Go.Pm
set_option maxRecDepth 100000
set_option maxHeartbeats 4000000

theorem lsLe_map {α : Type} {f : Nat → D} {g : α → D} : ∀ (L : List α) (k : Nat), (∀ i, i < L.length → (L.map g)[i]? = some (f (k + i))) → LsLe (L.map g) f k
  | [], _, _ => trivial
  | x :: r, k, h => by
    have h0 := h 0 (by simp)
    simp at h0
    refine ⟨?_, lsLe_map r (k + 1) fun i hi => ?_⟩
    · rw [← h0]; exact CsLe.refl _
    · have := h (i + 1) (by simpa using hi)
      rw [show k + 1 + i = k + (i + 1) by omega]; simpa using this
theorem le_strs (L : List Str) : DLe (.list 1 (L.map .str)) (encStrs L) :=
  DLe.list (by simp) (lsLe_map L 0 fun i hi => by simp [List.getD_eq_getElem?_getD, hi])
theorem le_tags (L : List (Str × Str)) : DLe (.list 2 (L.map encTag)) (encTags L) :=
  DLe.list (by simp) (lsLe_map L 0 fun i hi => by simp [List.getD_eq_getElem?_getD, hi])
theorem le_nstrs : DLe .nils (encStrs []) := DLe.nils
theorem le_ntags : DLe .nils (encTags []) := DLe.nils
theorem le_map0 : DLe (.agg [.nils]) (encMap []) := DLe.agg ⟨DLe.nils, rfl, trivial⟩
def romeT : List (Str × Str) := [(nameS, [82, 111, 109, 101]), ([110, 97, 109, 101, 95, 105, 116], [82, 111, 109, 97])]
def itS : Str := [105, 116]
def deS : Str := [100, 101]
def romeM : List Obj := [⟨[110], 1, 0, 0, [], romeT⟩, ⟨[111], 1, 0, 0, [], []⟩]
theorem le_romeM : DLe (.agg [.list 6 [.agg [.str [110], .int .i64 1, .int .i64 0, .int .i64 0, .nils, .list 2 (romeT.map encTag)], .agg [.str [111], .int .i64 1, .int .i64 0, .int .i64 0, .nils, .nils]]]) (encMap romeM) :=
  DLe.agg ⟨DLe.list rfl ⟨⟨DLe.refl _, rfl, DLe.refl _, rfl, DLe.refl _, rfl, DLe.refl _, rfl, le_nstrs, rfl, le_tags romeT, rfl, trivial⟩,
    ⟨DLe.refl _, rfl, DLe.refl _, rfl, DLe.refl _, rfl, DLe.refl _, rfl, le_nstrs, rfl, le_ntags, rfl, trivial⟩, trivial⟩, rfl, trivial⟩
theorem h33a : PCall Try.prog 39 [.d (.list 2 (romeT.map encTag)), .d (.list 1 ([itS, deS].map .str))] fun x => x = .tup [.d (.str [82, 111, 109, 97]), .d (.str [110, 97, 109, 101, 95, 105, 116])] := by
  have h := (c39 romeT [itS, deS] (by decide)).le (args' := [.d (.list 2 (romeT.map encTag)), .d (.list 1 ([itS, deS].map .str))]) ⟨(le_tags romeT).av, (le_strs [itS, deS]).av, trivial⟩
  rwa [show best romeT [itS, deS] = ([82, 111, 109, 97], [110, 97, 109, 101, 95, 105, 116]) by decide] at h
theorem h33b : PCall Try.prog 39 [.d (.list 2 (romeT.map encTag)), .d (.list 1 ([deS].map .str))] fun x => x = .tup [.d (.str [82, 111, 109, 101]), .d (.str nameS)] := by
  have h := (c39 romeT [deS] (by decide)).le (args' := [.d (.list 2 (romeT.map encTag)), .d (.list 1 ([deS].map .str))]) ⟨(le_tags romeT).av, (le_strs [deS]).av, trivial⟩
  rwa [show best romeT [deS] = ([82, 111, 109, 101], nameS) by decide] at h
theorem h33c : PCall Try.prog 38 [.d (.list 2 (romeT.map encTag))] fun x => x = .d (encStrs [[], itS]) := by
  have h := (c38 romeT).le (args' := [.d (.list 2 (romeT.map encTag))]) ⟨(le_tags romeT).av, trivial⟩
  rwa [show langsV romeT = [[], itS] by decide] at h
theorem h33d (a b : List Str) : PCall Try.prog 65 [.d (encStrs a), .d (.list 1 (b.map .str))] fun x => x = .d (.bool (a == b)) :=
  (c65 a b).le ⟨AV.le_refl _, (le_strs b).av, trivial⟩
theorem h33e : PCall Try.prog 34 [.d (.str [32, 32, 82, 79, 77, 65, 32, 32, 78, 111, 114, 100, 32])] fun x => x = .d (.str [114, 111, 109, 97, 32, 110, 111, 114, 100]) := by
  have h := c34 [32, 32, 82, 79, 77, 65, 32, 32, 78, 111, 114, 100, 32] (by decide)
  rwa [show foldS [32, 32, 82, 79, 77, 65, 32, 32, 78, 111, 114, 100, 32] = [114, 111, 109, 97, 32, 110, 111, 114, 100] by decide] at h
def romeD : D := .agg [.list 6 [.agg [.str [110], .int .i64 1, .int .i64 0, .int .i64 0, .nils, .list 2 (romeT.map encTag)], .agg [.str [111], .int .i64 1, .int .i64 0, .int .i64 0, .nils, .nils]]]
theorem h33f : PCall Try.prog 66 [.d romeD, .d (.str [32, 82, 79, 77, 65])] fun x => x = .d (encStrs [[110]]) := by
  have h := (c66 romeM [32, 82, 79, 77, 65] (by decide)).le (args' := [.d romeD, .d (.str [32, 82, 79, 77, 65])]) ⟨le_romeM.av, AV.le_refl _, trivial⟩
  rwa [show findV romeM [32, 82, 79, 77, 65] = [[110]] by decide] at h
theorem h33g : PCall Try.prog 67 [.d romeD, .d (.list 1 ([deS, itS].map .str))] fun x => x = .d (encStrs [[110]]) := by
  have h := (c67 romeM [deS, itS]).le (args' := [.d romeD, .d (.list 1 ([deS, itS].map .str))]) ⟨le_romeM.av, (le_strs [deS, itS]).av, trivial⟩
  rwa [show missV [deS, itS] romeM = [[110]] by decide] at h
theorem h33h : PCall Try.prog 67 [.d romeD, .d (.list 1 ([itS, []].map .str))] fun x => x = .d (encStrs []) := by
  have h := (c67 romeM [itS, []]).le (args' := [.d romeD, .d (.list 1 ([itS, []].map .str))]) ⟨le_romeM.av, (le_strs [itS, []]).av, trivial⟩
  rwa [show missV [itS, []] romeM = [] by decide] at h
theorem c33 : PCall Try.prog 33 [] fun x => x = .d (.bool true) := by
  refine PCall.intro Try.tabOk Try.f33 _ Try.func33 rfl (by decide) rfl fun z => ?_
  repeat' first
    | (with_reducible refine AW.seq ?_)
    | ((with_reducible refine AW.region Try.tabOk ?_); (conv => whnf))
    | ((with_reducible refine AW.draw Try.tabOk Try.mixed ?_ ?_); (focus rfl); (conv => whnf))
    | ((with_reducible refine AW.ret ?_); (conv => whnf))
    | ((with_reducible refine AW.block ?_))
    | (with_reducible refine AW.scope ?_)
    | ((with_reducible refine AW.label ?_); (conv => whnf))
    | ((with_reducible refine AW.exit ?_); (conv => whnf))
    | ((with_reducible refine AW.skip ?_); (conv => whnf))
    | ((with_reducible refine AW.cond ?_); (conv => whnf))
    | ((with_reducible refine Own2.data ?_); (conv => whnf))
    | ((with_reducible refine ACall.id ?_); (refine PCall.call (by first | exact h33a | exact h33b | exact h33c | exact h33d [[], itS] [[], itS] | exact h33e | exact h33f | exact h33g | exact h33h | exact h33d [[110]] [[110]]) rfl ?_); (intro x hx; first | subst hx | (obtain ⟨l_, rfl, hl_⟩ := hx.out)); (conv => whnf))
    | ((with_reducible refine ACall.freeze rfl ?_); (conv => whnf))
    | (refine ⟨true, _, rfl, ?_⟩; (conv => whnf))
    | (refine ⟨false, .nilp, rfl, ?_⟩; (conv => whnf))
    | (refine ⟨_, _, by first | exact h33a | exact h33b | exact h33c | exact h33d [[], itS] [[], itS] | exact h33e | exact h33f | exact h33g | exact h33h | exact h33d [[110]] [[110]], ?_⟩; (conv => whnf))
    | ((with_reducible apply Or.inl); (refine ⟨rfl, rfl, ?_⟩); (conv => whnf))
    | (refine ⟨_, ⟨rfl, rfl⟩, ?_⟩; (conv => whnf))
    | (refine ⟨_, ⟨rfl, getM (by first | omega | (simp; omega))⟩, ?_⟩; (conv => whnf))
    | ((with_reducible apply Or.inl); apply Exists.intro; apply And.intro; (focus (intro hg; (conv => whnf); (repeat' first | (with_reducible exact ⟨rfl, rfl⟩) | ((with_reducible refine Own2.data ?_); (conv => whnf)) | (refine ⟨true, _, rfl, ?_⟩; (conv => whnf)) | (refine ⟨false, .nilp, rfl, ?_⟩; (conv => whnf)) | (refine ⟨_, _, by first | exact h33a | exact h33b | exact h33c | exact h33d [[], itS] [[], itS] | exact h33e | exact h33f | exact h33g | exact h33h | exact h33d [[110]] [[110]], ?_⟩; (conv => whnf)) | ((with_reducible apply Or.inl); (refine ⟨rfl, rfl, ?_⟩); (conv => whnf)) | ((with_reducible apply Or.inl); (with_reducible apply And.intro); (focus (simp only [rng]; omega)); (conv => whnf)) | (refine ⟨by first | omega | (simp at hg ⊢; omega) | (simp_all; first | done | fail), ?_⟩; (conv => whnf)) | ((with_reducible refine ACall.id ?_); (refine PCall.call (by first | exact h33a | exact h33b | exact h33c | exact h33d [[], itS] [[], itS] | exact h33e | exact h33f | exact h33g | exact h33h | exact h33d [[110]] [[110]]) rfl ?_); (intro x hx; first | subst hx | (obtain ⟨l_, rfl, hl_⟩ := hx.out)); (conv => whnf)) | (intro hlen; (conv => whnf))); done)); (conv => whnf))
    | (apply Exists.intro; apply And.intro; (focus (first | (intro hg; (conv => whnf)) | (conv => whnf)); (repeat' first | (with_reducible exact ⟨rfl, rfl⟩) | ((with_reducible refine Own2.data ?_); (conv => whnf)) | (refine ⟨true, _, rfl, ?_⟩; (conv => whnf)) | (refine ⟨false, .nilp, rfl, ?_⟩; (conv => whnf)) | (refine ⟨_, _, by first | exact h33a | exact h33b | exact h33c | exact h33d [[], itS] [[], itS] | exact h33e | exact h33f | exact h33g | exact h33h | exact h33d [[110]] [[110]], ?_⟩; (conv => whnf)) | ((with_reducible apply Or.inl); (refine ⟨rfl, rfl, ?_⟩); (conv => whnf)) | ((with_reducible apply Or.inl); (with_reducible apply And.intro); (focus (simp only [rng]; omega)); (conv => whnf)) | (refine ⟨by first | omega | (simp at hg ⊢; omega) | (simp_all; first | done | fail), ?_⟩; (conv => whnf)) | ((with_reducible refine ACall.id ?_); (refine PCall.call (by first | exact h33a | exact h33b | exact h33c | exact h33d [[], itS] [[], itS] | exact h33e | exact h33f | exact h33g | exact h33h | exact h33d [[110]] [[110]]) rfl ?_); (intro x hx; first | subst hx | (obtain ⟨l_, rfl, hl_⟩ := hx.out)); (conv => whnf)) | (intro hlen; (conv => whnf))); done); (conv => whnf))
    | ((with_reducible apply Or.inl); (with_reducible apply And.intro); (focus (simp only [rng]; omega)); (conv => whnf))
    | ((with_reducible apply Or.inr); (with_reducible apply And.intro) <;> (intro hb; (try simp at hb); (try (exfalso; first | omega | (simp_all; first | done | fail))); (try (conv => whnf))))
    | ((with_reducible apply And.intro); (focus (first | omega | (exact True.intro) | (simp; omega) | (exact Nat.le_of_ble_eq_true rfl) | (exact ⟨rfl, Nat.le_of_ble_eq_true rfl⟩) | (exact ⟨Nat.le_of_ble_eq_true rfl, Nat.le_of_ble_eq_true rfl⟩) | (intro hg; first | (simp; first | done | fail) | (simp at hg ⊢; exact hg) | (simp at hg; exact hg) | exact hg))); (conv => whnf))
    | ((with_reducible apply And.intro) <;> (intro hb; (try simp at hb); (try (exfalso; first | omega | (simp_all; first | done | fail))); (try (conv => whnf))))
    | (intro hlen; (conv => whnf))
    | ((with_reducible refine And.intro (Side.out ?_) ?_); rotate_left; (conv => whnf); rotate_right)
  · exact ⟨by decide⟩
  · exact ⟨by decide⟩
  · exact ⟨by decide⟩
  · rfl
  · exact absurd rfl (by assumption)
end Go.Proofs
end
section
/- Plain laws of folding. -/
namespace Go.Proofs
open Go.Pm
set_option maxRecDepth 100000

/-- Good words: not empty, no blank inside. -/
def goodW (L : List Str) : Prop := ∀ w ∈ L, w ≠ [] ∧ ∀ c ∈ w, blank c = false
theorem wordsA_good : ∀ (s cur : Str), (∀ c ∈ cur, blank c = false) → goodW (wordsA s cur)
  | [], cur, h => by
    unfold wordsA
    split
    · intro w hw; cases hw
    · intro w hw
      obtain rfl := List.mem_singleton.1 hw
      exact ⟨by assumption, h⟩
  | c :: r, cur, h => by
    unfold wordsA
    split
    · have h0 := wordsA_good r [] (fun c hc => by cases hc)
      split
      · exact h0
      · intro w hw
        rcases List.mem_cons.1 hw with rfl | hw
        · exact ⟨by assumption, h⟩
        · exact h0 w hw
    · rename_i hb
      exact wordsA_good r (cur ++ [c]) (fun d hd => by
        rcases List.mem_append.1 hd with hd | hd
        · exact h d hd
        · obtain rfl := List.mem_singleton.1 hd; simpa using hb)
theorem words_good (s : Str) : goodW (words s) := wordsA_good s [] (fun c hc => by cases hc)
theorem wordsA_word : ∀ (w r cur : Str), (∀ c ∈ w, blank c = false) → wordsA (w ++ r) cur = wordsA r (cur ++ w)
  | [], r, cur, _ => by simp
  | c :: w, r, cur, h => by
    rw [List.cons_append, wordsA, h c (by simp), if_neg (by simp), wordsA_word w r (cur ++ [c]) (fun d hd => h d (by simp [hd]))]
    simp
theorem joinS_nil (sep : Str) : joinS [] sep = [] := Lib.join_nil sep
theorem joinS_one (x : Str) (sep : Str) : joinS [x] sep = x := Lib.join_one x sep
theorem joinS_cons (x y : Str) (r : List Str) (sep : Str) : joinS (x :: y :: r) sep = x ++ sep ++ joinS (y :: r) sep := by
  simp [joinS, Lib.join, List.intercalate, List.intersperse]
theorem words_join : ∀ (L : List Str), goodW L → words (joinS L [32]) = L
  | [], _ => by rw [joinS_nil]; rfl
  | [x], h => by
    have hx := h x (by simp)
    rw [joinS_one]
    have := wordsA_word x [] [] hx.2
    rw [List.append_nil] at this
    unfold words
    rw [this, List.nil_append, wordsA, if_neg hx.1]
  | x :: y :: r, h => by
    have hx := h x (by simp)
    have ih := words_join (y :: r) (fun w hw => h w (by simp [hw]))
    rw [joinS_cons, List.append_assoc]
    unfold words at ih ⊢
    rw [wordsA_word x _ [] hx.2, List.nil_append, List.singleton_append, wordsA, show blank 32 = true by decide, if_pos rfl, if_neg hx.1, ih]
theorem wordsA_map (f : UInt8 → UInt8) (hf : ∀ c, blank (f c) = blank c) : ∀ (s cur : Str), wordsA (s.map f) (cur.map f) = (wordsA s cur).map (List.map f)
  | [], cur => by
    simp only [List.map_nil, wordsA]
    cases cur <;> simp
  | c :: r, cur => by
    rw [List.map_cons, wordsA, wordsA, hf]
    have h0 := wordsA_map f hf r []
    have h1 := wordsA_map f hf r (cur ++ [c])
    simp only [List.map_append, List.map_cons, List.map_nil] at h0 h1
    rw [h0, h1]
    cases hb : blank c <;> cases cur <;> simp
theorem joinS_map (f : UInt8 → UInt8) (hf : f 32 = 32) : ∀ (L : List Str), (joinS L [32]).map f = joinS (L.map (List.map f)) [32]
  | [] => by simp [joinS_nil]
  | [x] => by simp [joinS_one]
  | x :: y :: r => by
    have ih := joinS_map f hf (y :: r)
    rw [List.map_cons, List.map_cons, joinS_cons, joinS_cons, ← List.map_cons, ← ih]
    simp [hf]
theorem u8_all {p : UInt8 → Prop} [DecidablePred p] (h : ∀ i : Fin 256, p (UInt8.ofNat i.val)) (c : UInt8) : p c := by
  have := h ⟨c.toNat, c.toNat_lt⟩
  simpa using this
theorem blank_lowB (c : UInt8) : blank (lowB c) = blank c := by revert c; exact u8_all (by decide)
theorem blank_upB (c : UInt8) : (blank (upB c) = blank c) := by revert c; exact u8_all (by decide)
theorem lowB_lowB (c : UInt8) : lowB (lowB c) = lowB c := by revert c; exact u8_all (by decide)
theorem lowB_upB (c : UInt8) : lowB (upB c) = lowB c := by revert c; exact u8_all (by decide)
theorem upB_32 (c : UInt8) : upB c = 32 → c = 32 := by revert c; exact u8_all (by decide)
theorem lowB_cap (c : UInt8) : ¬(65 ≤ (lowB c).toNat ∧ (lowB c).toNat ≤ 90) := by revert c; exact u8_all (by decide)

theorem foldS_fold (s : Str) : foldS (foldS s) = foldS s := by
  unfold foldS
  rw [joinS_map lowB (by decide) (words s)]
  rw [words_join]
  · rw [joinS_map lowB (by decide), List.map_map]
    congr 1
    apply List.map_congr_left
    intro w _
    simp [lowB_lowB]
  · intro w hw
    obtain ⟨u, hu, rfl⟩ := List.mem_map.1 hw
    have := words_good s u hu
    exact ⟨by simpa using this.1, fun c hc => by
      obtain ⟨d, hd, rfl⟩ := List.mem_map.1 hc
      rw [blank_lowB]; exact this.2 d hd⟩
theorem wordsA_up : ∀ (s cur : Str), wordsA (s.flatMap up1 ++ [10]) (cur.map upB) = (wordsA s cur).map (List.map upB)
  | [], cur => by
    simp only [List.flatMap_nil, List.nil_append, wordsA, show blank 10 = true by decide, if_true]
    cases cur <;> simp
  | c :: r, cur => by
    have h0 := wordsA_up r []
    have h1 := wordsA_up r (cur ++ [c])
    simp only [List.map_append, List.map_cons, List.map_nil] at h0 h1
    rw [List.flatMap_cons, List.append_assoc, wordsA]
    unfold up1 at h0 h1 ⊢
    by_cases h : upB c = 32
    · have hc := upB_32 c h
      rw [if_pos h, hc, if_pos (by decide)]
      show wordsA (32 :: 32 :: (List.flatMap (fun c => if upB c = 32 then [upB c, 32] else [upB c]) r ++ [10])) _ = _
      rw [wordsA, show blank 32 = true by decide, if_pos rfl]
      have h2 : wordsA (32 :: (List.flatMap (fun c => if upB c = 32 then [upB c, 32] else [upB c]) r ++ [10])) [] = (wordsA r []).map (List.map upB) := by
        rw [wordsA, show blank 32 = true by decide, if_pos rfl, if_pos rfl, h0]
      rw [h2]
      cases cur <;> simp
    · rw [if_neg h, List.singleton_append, wordsA, blank_upB]
      rw [h0, h1]
      cases hb : blank c <;> cases cur <;> simp
theorem foldS_raised (s : Str) : foldS (raisedS s) = foldS s := by
  unfold foldS raisedS
  have h : words (32 :: s.flatMap up1 ++ [10]) = (words s).map (List.map upB) := by
    unfold words
    rw [List.cons_append, wordsA, show blank 32 = true by decide, if_pos rfl, if_pos rfl]
    exact wordsA_up s []
  rw [h, joinS_map lowB (by decide), joinS_map lowB (by decide), List.map_map]
  congr 1
  apply List.map_congr_left
  intro w _
  simp [lowB_upB]
theorem foldS_len (s : Str) : (foldS s).length ≤ s.length := by
  unfold foldS
  rw [List.length_map]
  have := (words_bound s []).1
  rw [List.length_nil, Nat.add_zero] at this
  exact this
/-- Single blanks, none at the ends. -/
def thin (f : Str) : Prop := ∀ i, i < f.length → f.getD i 0 = 32 → 0 < i ∧ i + 1 < f.length ∧ f.getD (i - 1) 0 ≠ 32
theorem join_thin : ∀ (L : List Str), goodW L → thin (joinS L [32])
  | [], _ => by rw [joinS_nil]; intro i hi; exact absurd hi (Nat.not_lt_zero i)
  | [x], h => by
    rw [joinS_one]
    intro i hi he
    have := (h x (by simp)).2 (x.getD i 0) (by rw [List.getD_eq_getElem?_getD, List.getElem?_eq_getElem hi]; exact List.getElem_mem hi)
    rw [he] at this; cases this
  | x :: y :: r, h => by
    have hx := h x (by simp)
    have hxl : 0 < x.length := List.length_pos_iff.2 hx.1
    have ih := join_thin (y :: r) (fun w hw => h w (by simp [hw]))
    have hne : 0 < (joinS (y :: r) [32]).length := by
      have hy := (h y (by simp)).1
      have hyl : 0 < y.length := List.length_pos_iff.2 hy
      cases r with
      | nil => rw [joinS_one]; exact hyl
      | cons z r => rw [joinS_cons, List.length_append, List.length_append]; omega
    rw [joinS_cons]
    intro i hi he
    have hxc : ∀ j, j < x.length → x.getD j 0 ≠ 32 := fun j hj e => by
      have := hx.2 (x.getD j 0) (by rw [List.getD_eq_getElem?_getD, List.getElem?_eq_getElem hj]; exact List.getElem_mem hj)
      rw [e] at this; cases this
    have g1 : ∀ j, j < x.length → (x ++ [32] ++ joinS (y :: r) [32]).getD j 0 = x.getD j 0 := fun j hj => by
      rw [List.append_assoc, List.getD_eq_getElem?_getD, List.getElem?_append_left hj, List.getD_eq_getElem?_getD]
    have g2 : ∀ j, (x ++ [32] ++ joinS (y :: r) [32]).getD (x.length + 1 + j) 0 = (joinS (y :: r) [32]).getD j 0 := fun j => by
      rw [List.getD_eq_getElem?_getD, List.getElem?_append_right (by simp), List.getD_eq_getElem?_getD]
      congr 2
      simp
    have g3 : (x ++ [32] ++ joinS (y :: r) [32]).length = x.length + 1 + (joinS (y :: r) [32]).length := by rw [List.length_append, List.length_append]; rfl
    rw [g3] at hi ⊢
    rcases Nat.lt_trichotomy i x.length with h1 | h1 | h1
    · rw [g1 i h1] at he
      exact absurd he (hxc i h1)
    · subst h1
      exact ⟨hxl, by omega, by rw [g1 _ (by omega)]; exact hxc _ (by omega)⟩
    · obtain ⟨k, rfl⟩ : ∃ k, i = x.length + 1 + k := ⟨i - x.length - 1, by omega⟩
      rw [g2] at he
      obtain ⟨k1, k2, k3⟩ := ih k (by omega) he
      refine ⟨by omega, by omega, ?_⟩
      rw [show x.length + 1 + k - 1 = x.length + 1 + (k - 1) by omega, g2]
      exact k3
theorem foldS_thin (s : Str) : thin (foldS s) := by
  unfold foldS
  have := join_thin ((words s).map (List.map lowB)) (by
    intro w hw
    obtain ⟨u, hu, rfl⟩ := List.mem_map.1 hw
    have := words_good s u hu
    exact ⟨by simpa using this.1, fun c hc => by
      obtain ⟨d, hd, rfl⟩ := List.mem_map.1 hc
      rw [blank_lowB]; exact this.2 d hd⟩)
  rwa [← joinS_map lowB (by decide)] at this
theorem join_mem : ∀ (L : List Str), goodW L → ∀ c ∈ joinS L [32], c = 32 ∨ blank c = false
  | [], _, c, hc => by rw [joinS_nil] at hc; cases hc
  | [x], h, c, hc => by rw [joinS_one] at hc; exact .inr ((h x (by simp)).2 c hc)
  | x :: y :: r, h, c, hc => by
    rw [joinS_cons, List.append_assoc] at hc
    rcases List.mem_append.1 hc with hc | hc
    · exact .inr ((h x (by simp)).2 c hc)
    · rcases List.mem_cons.1 hc with rfl | hc
      · exact .inl rfl
      · exact join_mem (y :: r) (fun w hw => h w (by simp [hw])) c hc
theorem foldS_byte (s : Str) {i : Nat} (hi : i < (foldS s).length) : ¬(65 ≤ ((foldS s).getD i 0).toNat ∧ ((foldS s).getD i 0).toNat ≤ 90) ∧ ((foldS s).getD i 0).toNat ≠ 9 ∧ ((foldS s).getD i 0).toNat ≠ 10 := by
  have hm : (foldS s).getD i 0 ∈ foldS s := by rw [List.getD_eq_getElem?_getD, List.getElem?_eq_getElem hi]; exact List.getElem_mem hi
  obtain ⟨c, hc, he⟩ := List.mem_map.1 hm
  rw [← he]
  refine ⟨lowB_cap c, ?_⟩
  rcases join_mem (words s) (words_good s) c hc with rfl | hb
  · decide
  · rw [← blank_lowB] at hb
    simp only [blank, blankN, Bool.or_eq_false_iff, decide_eq_false_iff_not] at hb
    exact ⟨hb.1.2, hb.2⟩
end Go.Proofs
end
section
/- Law 18: folds. -/
namespace Go.Proofs
open Go.Pm
set_option maxRecDepth 100000
set_option maxHeartbeats 4000000

theorem raisedS_len (s : Str) : (raisedS s).length ≤ 2 * s.length + 2 := by
  have : ∀ s : Str, (s.flatMap up1).length ≤ 2 * s.length := by
    intro s
    induction s with
    | nil => simp
    | cons c r ih =>
      rw [List.flatMap_cons, List.length_append, List.length_cons]
      have : (up1 c).length ≤ 2 := by unfold up1; split <;> simp
      omega
  have := this s
  unfold raisedS
  rw [List.length_append, List.length_cons]
  simp only [List.length_cons, List.length_nil]; omega
theorem c10 (s : Str) : PCall Try.prog 10 [.d (.str s)] fun x => x = .d (.bool true) := by
  refine PCall.intro Try.tabOk Try.f10 _ Try.func10 rfl (by decide) rfl fun z => ?_
  repeat' first
    | (with_reducible refine AW.seq ?_)
    | ((with_reducible refine AW.region Try.tabOk ?_); (conv => whnf))
    | ((with_reducible refine AW.draw Try.tabOk Try.mixed ?_ ?_); (focus rfl); (conv => whnf))
    | ((with_reducible refine AW.ret ?_); (conv => whnf))
    | ((with_reducible refine AW.block ?_))
    | (with_reducible refine AW.scope ?_)
    | ((with_reducible refine AW.label ?_); (conv => whnf))
    | ((with_reducible refine AW.exit ?_); (conv => whnf))
    | ((with_reducible refine AW.skip ?_); (conv => whnf))
    | ((with_reducible refine AW.cond ?_); (conv => whnf))
    | ((with_reducible refine Own2.data ?_); (conv => whnf))
    | ((with_reducible refine ACall.id ?_); (refine PCall.call (by first | exact c33 | exact c34 _ (by omega)) rfl ?_); (intro x hx; first | subst hx | (obtain ⟨l_, rfl, hl_⟩ := hx.out)); (conv => whnf))
    | ((with_reducible refine ACall.freeze rfl ?_); (conv => whnf))
    | (refine ⟨true, _, rfl, ?_⟩; (conv => whnf))
    | (refine ⟨false, .nilp, rfl, ?_⟩; (conv => whnf))
    | (refine ⟨_, _, by first | exact c33 | exact c34 _ (by omega), ?_⟩; (conv => whnf))
    | ((with_reducible apply Or.inl); (refine ⟨rfl, rfl, ?_⟩); (conv => whnf))
    | (refine ⟨_, ⟨rfl, rfl⟩, ?_⟩; (conv => whnf))
    | (refine ⟨_, ⟨rfl, getM (by first | omega | (simp; omega))⟩, ?_⟩; (conv => whnf))
    | ((with_reducible apply Or.inl); apply Exists.intro; apply And.intro; (focus (intro hg; (conv => whnf); (repeat' first | (with_reducible exact ⟨rfl, rfl⟩) | ((with_reducible refine Own2.data ?_); (conv => whnf)) | (refine ⟨true, _, rfl, ?_⟩; (conv => whnf)) | (refine ⟨false, .nilp, rfl, ?_⟩; (conv => whnf)) | (refine ⟨_, _, by first | exact c33 | exact c34 _ (by omega), ?_⟩; (conv => whnf)) | ((with_reducible apply Or.inl); (refine ⟨rfl, rfl, ?_⟩); (conv => whnf)) | ((with_reducible apply Or.inl); (with_reducible apply And.intro); (focus (simp only [rng]; omega)); (conv => whnf)) | (refine ⟨by first | omega | (simp at hg ⊢; omega) | (simp_all; first | done | fail), ?_⟩; (conv => whnf)) | ((with_reducible refine ACall.id ?_); (refine PCall.call (by first | exact c33 | exact c34 _ (by omega)) rfl ?_); (intro x hx; first | subst hx | (obtain ⟨l_, rfl, hl_⟩ := hx.out)); (conv => whnf)) | (intro hlen; (conv => whnf))); done)); (conv => whnf))
    | (apply Exists.intro; apply And.intro; (focus (first | (intro hg; (conv => whnf)) | (conv => whnf)); (repeat' first | (with_reducible exact ⟨rfl, rfl⟩) | ((with_reducible refine Own2.data ?_); (conv => whnf)) | (refine ⟨true, _, rfl, ?_⟩; (conv => whnf)) | (refine ⟨false, .nilp, rfl, ?_⟩; (conv => whnf)) | (refine ⟨_, _, by first | exact c33 | exact c34 _ (by omega), ?_⟩; (conv => whnf)) | ((with_reducible apply Or.inl); (refine ⟨rfl, rfl, ?_⟩); (conv => whnf)) | ((with_reducible apply Or.inl); (with_reducible apply And.intro); (focus (simp only [rng]; omega)); (conv => whnf)) | (refine ⟨by first | omega | (simp at hg ⊢; omega) | (simp_all; first | done | fail), ?_⟩; (conv => whnf)) | ((with_reducible refine ACall.id ?_); (refine PCall.call (by first | exact c33 | exact c34 _ (by omega)) rfl ?_); (intro x hx; first | subst hx | (obtain ⟨l_, rfl, hl_⟩ := hx.out)); (conv => whnf)) | (intro hlen; (conv => whnf))); done); (conv => whnf))
    | ((with_reducible apply Or.inl); (with_reducible apply And.intro); (focus (simp only [rng]; omega)); (conv => whnf))
    | ((with_reducible apply Or.inr); (with_reducible apply And.intro) <;> (intro hb; (try simp at hb); (try (exfalso; first | omega | (simp_all; first | done | fail))); (try (conv => whnf))))
    | ((with_reducible apply And.intro); (focus (first | omega | (exact True.intro) | (simp; omega) | (exact Nat.le_of_ble_eq_true rfl) | (exact ⟨rfl, Nat.le_of_ble_eq_true rfl⟩) | (exact ⟨Nat.le_of_ble_eq_true rfl, Nat.le_of_ble_eq_true rfl⟩) | (intro hg; first | (simp; first | done | fail) | (simp at hg ⊢; exact hg) | (simp at hg; exact hg) | exact hg))); (conv => whnf))
    | ((with_reducible apply And.intro) <;> (intro hb; (try simp at hb); (try (exfalso; first | omega | (simp_all; first | done | fail))); (try (conv => whnf))))
    | (intro hlen; (conv => whnf))
    | ((with_reducible refine And.intro (Side.out ?_) ?_); rotate_left; (conv => whnf); rotate_right)
  have hfl := foldS_len s
  have hth := foldS_thin s
  have hby := fun i h => foldS_byte s (i := i) h
  have hff := foldS_fold s
  have hfr := foldS_raised s
  obtain ⟨F, hF⟩ : ∃ F, F = foldS s := ⟨_, rfl⟩
  have c34' : PCall Try.prog 34 [.d (.str s)] fun x => x = .d (.str F) := by rw [hF]; exact c34 s (by omega)
  have c34F : PCall Try.prog 34 [.d (.str F)] fun x => x = .d (.str F) := by
    have := c34 F (by rw [hF]; omega)
    rwa [hF, hff, ← hF] at this
  have c34R : PCall Try.prog 34 [.d (.str (raisedS s))] fun x => x = .d (.str F) := by
    have := c34 (raisedS s) (by have := raisedS_len s; omega)
    rwa [hfr, ← hF] at this
  rw [← hF]
  rw [← hF] at hfl hth hby hff hfr
  refine AW.loopS (X := Nat) [4, 3, 0] [] (fun i => [(5, .d (.int .i64 (i : Int)))]) (fun _ => []) (fun _ => 0)
    (fun i => i ≤ F.length) (fun i => F.length - i) 0 (Nat.zero_le _) (fun _ _ => rfl) (by refine ⟨rfl, rfl, rfl, ?_, ?_⟩ <;> repeat' (first | exact trivial | exact OLe.refl _ | exact AV.le_refl _ | apply And.intro)) ?_
  intro i hi
  repeat' first
    | (with_reducible refine AW.seq ?_)
    | ((with_reducible refine AW.region Try.tabOk ?_); (conv => whnf))
    | ((with_reducible refine AW.draw Try.tabOk Try.mixed ?_ ?_); (focus rfl); (conv => whnf))
    | ((with_reducible refine AW.ret ?_); (conv => whnf))
    | ((with_reducible refine AW.block ?_))
    | (with_reducible refine AW.scope ?_)
    | ((with_reducible refine AW.label ?_); (conv => whnf))
    | ((with_reducible refine AW.exit ?_); (conv => whnf))
    | ((with_reducible refine AW.skip ?_); (conv => whnf))
    | ((with_reducible refine AW.cond ?_); (conv => whnf))
    | ((with_reducible refine Own2.data ?_); (conv => whnf))
    | ((with_reducible refine ACall.id ?_); (refine PCall.call (by first | exact c34F | exact c34R | exact c35 s (by omega)) rfl ?_); (intro x hx; first | subst hx | (obtain ⟨l_, rfl, hl_⟩ := hx.out)); (conv => whnf))
    | ((with_reducible refine ACall.freeze rfl ?_); (conv => whnf))
    | (refine ⟨true, _, rfl, ?_⟩; (conv => whnf))
    | (refine ⟨false, .nilp, rfl, ?_⟩; (conv => whnf))
    | (refine ⟨_, _, by first | exact c34F | exact c34R | exact c35 s (by omega), ?_⟩; (conv => whnf))
    | ((with_reducible apply Or.inl); (refine ⟨rfl, rfl, ?_⟩); (conv => whnf))
    | (refine ⟨_, ⟨rfl, rfl⟩, ?_⟩; (conv => whnf))
    | (refine ⟨_, ⟨rfl, getM (by first | omega | (simp; omega))⟩, ?_⟩; (conv => whnf))
    | ((with_reducible apply Or.inl); apply Exists.intro; apply And.intro; (focus (intro hg; (conv => whnf); (repeat' first | (with_reducible exact ⟨rfl, rfl⟩) | ((with_reducible refine Own2.data ?_); (conv => whnf)) | (refine ⟨true, _, rfl, ?_⟩; (conv => whnf)) | (refine ⟨false, .nilp, rfl, ?_⟩; (conv => whnf)) | (refine ⟨_, _, by first | exact c34F | exact c34R | exact c35 s (by omega), ?_⟩; (conv => whnf)) | ((with_reducible apply Or.inl); (refine ⟨rfl, rfl, ?_⟩); (conv => whnf)) | ((with_reducible apply Or.inl); (with_reducible apply And.intro); (focus (simp only [rng]; omega)); (conv => whnf)) | (refine ⟨by first | omega | (simp at hg ⊢; omega) | (simp_all; first | done | fail), ?_⟩; (conv => whnf)) | ((with_reducible refine ACall.id ?_); (refine PCall.call (by first | exact c34F | exact c34R | exact c35 s (by omega)) rfl ?_); (intro x hx; first | subst hx | (obtain ⟨l_, rfl, hl_⟩ := hx.out)); (conv => whnf)) | (intro hlen; (conv => whnf))); done)); (conv => whnf))
    | (apply Exists.intro; apply And.intro; (focus (first | (intro hg; (conv => whnf)) | (conv => whnf)); (repeat' first | (with_reducible exact ⟨rfl, rfl⟩) | ((with_reducible refine Own2.data ?_); (conv => whnf)) | (refine ⟨true, _, rfl, ?_⟩; (conv => whnf)) | (refine ⟨false, .nilp, rfl, ?_⟩; (conv => whnf)) | (refine ⟨_, _, by first | exact c34F | exact c34R | exact c35 s (by omega), ?_⟩; (conv => whnf)) | ((with_reducible apply Or.inl); (refine ⟨rfl, rfl, ?_⟩); (conv => whnf)) | ((with_reducible apply Or.inl); (with_reducible apply And.intro); (focus (simp only [rng]; omega)); (conv => whnf)) | (refine ⟨by first | omega | (simp at hg ⊢; omega) | (simp_all; first | done | fail), ?_⟩; (conv => whnf)) | ((with_reducible refine ACall.id ?_); (refine PCall.call (by first | exact c34F | exact c34R | exact c35 s (by omega)) rfl ?_); (intro x hx; first | subst hx | (obtain ⟨l_, rfl, hl_⟩ := hx.out)); (conv => whnf)) | (intro hlen; (conv => whnf))); done); (conv => whnf))
    | ((with_reducible apply Or.inl); (with_reducible apply And.intro); (focus (simp only [rng]; omega)); (conv => whnf))
    | ((with_reducible apply Or.inr); (with_reducible apply And.intro) <;> (intro hb; (try simp at hb); (try (exfalso; first | omega | (simp_all; first | done | fail))); (try (conv => whnf))))
    | ((with_reducible apply And.intro); (focus (first | omega | (exact True.intro) | (simp; omega) | (exact Nat.le_of_ble_eq_true rfl) | (exact ⟨rfl, Nat.le_of_ble_eq_true rfl⟩) | (exact ⟨Nat.le_of_ble_eq_true rfl, Nat.le_of_ble_eq_true rfl⟩) | (intro hg; first | (simp; first | done | fail) | (simp at hg ⊢; exact hg) | (simp at hg; exact hg) | exact hg))); (conv => whnf))
    | ((with_reducible apply And.intro) <;> (intro hb; (try simp at hb); (try (exfalso; first | omega | (simp_all; first | done | fail))); (try (conv => whnf))))
    | (intro hlen; (conv => whnf))
    | ((with_reducible refine And.intro (Side.out ?_) ?_); rotate_left; (conv => whnf); rotate_right)
  · rename_i hb
    have hit : i < F.length := by assumption
    exfalso
    have h1 := hby i hit
    have h2 := hth i hit
    have h3 := UInt8.toNat_inj (a := F.getD i 0) (b := 32)
    have h4 := UInt8.toNat_inj (a := F.getD (i - 1) 0) (b := 32)
    simp only [← List.getD_eq_getElem?_getD] at hb
    have e32 : (32 : UInt8).toNat = 32 := rfl
    rw [e32] at h3 h4
    generalize F.getD i 0 = c at *
    generalize F.getD (i - 1) 0 = d at *
    by_cases hc : c = 32
    · have h2 := h2 hc
      have := h3.2 hc
      have : d.toNat ≠ 32 := fun e => h2.2.2 (h4.1 e)
      omega
    · have : c.toNat ≠ 32 := fun e => hc (h3.1 e)
      omega
  · exact .mk (i + 1) (by assumption) (by show F.length - (i + 1) < F.length - i; omega) (by refine ⟨rfl, rfl, rfl, ?_, ?_, rfl⟩ <;> repeat' (first | exact trivial | exact OLe.refl _ | exact AV.le_refl _ | apply And.intro))
  · simp [hfl]
end Go.Proofs
end
section
/- Plain laws of names' languages and of the best name. -/
namespace Go.Proofs
open Go.Pm
set_option maxRecDepth 100000

theorem idx_of {G : List Str} {v : Str} (h : v ∈ G) : 0 ≤ idx G v ∧ (idx G v).toNat < G.length ∧ G.getD (idx G v).toNat [] = v ∧ ∀ j, j < (idx G v).toNat → G.getD j [] ≠ v := by
  have hf : ∃ i, i < G.length ∧ G.getD i [] = v := by
    obtain ⟨i, hi, rfl⟩ := List.mem_iff_getElem.1 h
    exact ⟨i, hi, by rw [List.getD_eq_getElem?_getD, List.getElem?_eq_getElem hi]; rfl⟩
  have hmin : ∃ i, (i < G.length ∧ G.getD i [] = v) ∧ ∀ j, j < i → ¬(j < G.length ∧ G.getD j [] = v) := by
    obtain ⟨i, hi⟩ := hf
    induction i using Nat.strongRecOn with
    | _ i ih =>
      by_cases h : ∃ j, j < i ∧ (j < G.length ∧ G.getD j [] = v)
      · obtain ⟨j, h1, h2⟩ := h
        exact ih j h1 h2
      · exact ⟨i, hi, fun j hj hk => h ⟨j, hj, hk⟩⟩
  obtain ⟨i, ⟨hi, hv⟩, hw⟩ := hmin
  have e : idx G v = (i : Int) := idx_found hi hv.symm fun j hj e => hw j hj ⟨by omega, e.symm⟩
  rw [e]
  exact ⟨by omega, by simpa using hi, by simpa using hv, fun j hj e => hw j (by simpa using hj) ⟨by omega, e⟩⟩
theorem idx_not {G : List Str} {v : Str} (h : ¬v ∈ G) : idx G v = -1 :=
  idx_none fun j hj e => h (by rw [e, List.getD_eq_getElem?_getD, List.getElem?_eq_getElem hj]; exact List.getElem_mem hj)
theorem lang_key {k l : Str} (h : lang k = some l) : k = if l = [] then nameS else name_S ++ l := by
  unfold lang at h
  split at h
  · rename_i hk
    obtain rfl := Option.some.inj h
    simpa using hk
  · split at h
    · rename_i h1 h2
      obtain rfl := Option.some.inj h
      simp only [Bool.and_eq_true] at h2
      have h3 := (pre5 k).1 h2.1
      have h4 := h2.2
      simp only [langTail, Bool.and_eq_true, decide_eq_true_eq] at h4
      rw [if_neg (fun e => by rw [e] at h4; simp at h4), ← h3, List.take_append_drop]
    · cases h
theorem lang_inj {k k' l : Str} (h : lang k = some l) (h' : lang k' = some l) : k = k' := by rw [lang_key h, lang_key h']
theorem lang_lt {k k' l l' : Str} (h : lang k = some l) (h' : lang k' = some l') (hlt : ltS k k' = true) : ltS l l' = true := by
  have e := lang_key h
  have e' := lang_key h'
  by_cases hl : l = []
  · by_cases hl' : l' = []
    · rw [if_pos hl] at e
      rw [if_pos hl'] at e'
      rw [e, e', ltS_irrefl] at hlt; cases hlt
    · rw [hl]; exact nil_lt hl'
  · rw [if_neg hl] at e
    by_cases hl' : l' = []
    · rw [if_pos hl'] at e'
      rw [e, e'] at hlt
      have : ltS (name_S ++ l) nameS = false := by simp [name_S, nameS, ltS_cons, ltS_nil]
      rw [this] at hlt; cases hlt
    · rw [if_neg hl'] at e'
      rw [e, e'] at hlt
      simpa [name_S, ltS_cons] using hlt
theorem ascP_pair {l : List Str} (h : ascP l) : l.Pairwise fun a b => ltS a b = true := by
  induction l with
  | nil => exact .nil
  | cons x r ih =>
    have hr : ascP r := fun i hi => by
      have := h (i + 1) (by simpa using hi)
      simpa using this
    refine .cons ?_ (ih hr)
    intro y hy
    have ih := ih hr
    cases r with
    | nil => cases hy
    | cons z q =>
      have h0 : ltS x z = true := by have := h 0 (by simp); simpa using this
      rcases List.mem_cons.1 hy with rfl | hy
      · exact h0
      · cases ih with
        | cons h1 _ => exact ltS_trans h0 (h1 y hy)
theorem tagsB_asc {L : List (Str × Str)} (h : tagsB L = true) : L.Pairwise fun a b => ltS a.1 b.1 = true := by
  simp only [tagsB, Bool.and_eq_true, decide_eq_true_eq] at h
  have := ascP_pair h.1.2
  rwa [List.pairwise_map] at this
theorem langs_asc {L : List (Str × Str)} (h : tagsB L = true) : (langs L).Pairwise fun a b => ltS a b = true := by
  have h := tagsB_asc h
  unfold langs
  rw [List.pairwise_filterMap]
  exact h.imp fun {a b} hlt x hx y hy => lang_lt hx hy hlt
theorem langsV_lt {L : List (Str × Str)} {i : Nat} (hi : i + 1 < (langsV L).length) : ltS ((langsV L).getD i []) ((langsV L).getD (i + 1) []) = true := by
  unfold langsV at hi ⊢
  by_cases h : tagsB L = true
  · rw [if_pos h] at hi ⊢
    have := List.pairwise_iff_getElem.1 (langs_asc h) i (i + 1) (by omega) hi (by omega)
    simpa [List.getD_eq_getElem?_getD, hi, show i < (langs L).length by omega] using this
  · rw [if_neg h] at hi; exact absurd hi (Nat.not_lt_zero _)
theorem langs_mem {L : List (Str × Str)} {l : Str} : l ∈ langs L ↔ ∃ j, j < L.length ∧ lang (L.getD j dT).1 = some l := by
  unfold langs
  rw [List.mem_filterMap]
  constructor
  · rintro ⟨p, hp, h⟩
    obtain ⟨j, hj, rfl⟩ := List.mem_iff_getElem.1 hp
    exact ⟨j, hj, by rw [List.getD_eq_getElem?_getD, List.getElem?_eq_getElem hj]; exact h⟩
  · rintro ⟨j, hj, h⟩
    refine ⟨L[j], List.getElem_mem hj, ?_⟩
    rw [List.getD_eq_getElem?_getD, List.getElem?_eq_getElem hj] at h; exact h
theorem key_inj {L : List (Str × Str)} (h : tagsB L = true) {i j : Nat} (hi : i < L.length) (hj : j < L.length) (e : (L.getD i dT).1 = (L.getD j dT).1) : i = j := by
  have hp := List.pairwise_iff_getElem.1 (tagsB_asc h)
  have gi : L.getD i dT = L[i] := by rw [List.getD_eq_getElem?_getD, List.getElem?_eq_getElem hi]; rfl
  have gj : L.getD j dT = L[j] := by rw [List.getD_eq_getElem?_getD, List.getElem?_eq_getElem hj]; rfl
  rw [gi, gj] at e
  rcases Nat.lt_trichotomy i j with h1 | h1 | h1
  · have := hp i j hi hj h1; rw [e, ltS_irrefl] at this; cases this
  · exact h1
  · have := hp j i hj hi h1; rw [e, ltS_irrefl] at this; cases this

theorem atL_range (G : List Str) (l : Str) : 0 ≤ atL G l ∧ atL G l < (G.length : Int) + 2 := by
  unfold atL
  by_cases h : l ∈ G
  · have := idx_of h
    rw [if_pos this.1]; omega
  · rw [idx_not h, if_neg (by omega)]
    split <;> omega
/-- The entry at place i is the first best. -/
structure IsBest (G : List Str) (L : List (Str × Str)) (n i : Nat) (l : Str) : Prop where
  lt : i < n
  own : lang (L.getD i dT).1 = some l
  val : bestF G (L.take n) = (L.getD i dT, atL G l)
  min : ∀ j, j < n → ∀ l', lang (L.getD j dT).1 = some l' → atL G l ≤ atL G l'
theorem bestF_inv (G : List Str) (L : List (Str × Str)) : ∀ n, n ≤ L.length → ((∀ j, j < n → lang (L.getD j dT).1 = none) ∧ bestF G (L.take n) = (([], []), (G.length : Int) + 2)) ∨ ∃ i l, IsBest G L n i l
  | 0, _ => .inl ⟨fun j h => absurd h (Nat.not_lt_zero j), rfl⟩
  | n + 1, hn => by
    have hs := bestF_step (G := G) (show n < L.length by omega)
    rcases bestF_inv G L n (by omega) with ⟨h1, h2⟩ | ⟨i, l, h⟩
    · rw [h2] at hs
      cases hl : lang (L.getD n dT).1 with
      | none =>
        refine .inl ⟨fun j hj => ?_, ?_⟩
        · by_cases e : j = n
          · rw [e]; exact hl
          · exact h1 j (by omega)
        · rw [hs]; unfold bestStep; rw [hl]
      | some l =>
        refine .inr ⟨n, l, by omega, hl, ?_, fun j hj l' hl' => ?_⟩
        · rw [hs]; unfold bestStep; rw [hl]
          exact if_pos (atL_range G l).2
        · by_cases e : j = n
          · rw [e, hl] at hl'; rw [Option.some.inj hl']; exact Int.le_refl _
          · rw [h1 j (by omega)] at hl'; cases hl'
    · rw [h.val] at hs
      cases hl : lang (L.getD n dT).1 with
      | none =>
        refine .inr ⟨i, l, Nat.lt_succ_of_lt h.lt, h.own, ?_, fun j hj l' hl' => ?_⟩
        · rw [hs]; unfold bestStep; rw [hl]
        · by_cases e : j = n
          · rw [e, hl] at hl'; cases hl'
          · exact h.min j (by omega) l' hl'
      | some l2 =>
        by_cases hc : atL G l2 < atL G l
        · refine .inr ⟨n, l2, by omega, hl, ?_, fun j hj l' hl' => ?_⟩
          · rw [hs]; unfold bestStep; rw [hl]; exact if_pos hc
          · by_cases e : j = n
            · rw [e, hl] at hl'; rw [Option.some.inj hl']; exact Int.le_refl _
            · have := h.min j (by omega) l' hl'; omega
        · refine .inr ⟨i, l, Nat.lt_succ_of_lt h.lt, h.own, ?_, fun j hj l' hl' => ?_⟩
          · rw [hs]; unfold bestStep; rw [hl]; exact if_neg hc
          · by_cases e : j = n
            · rw [e, hl] at hl'; rw [← Option.some.inj hl']; omega
            · exact h.min j (by omega) l' hl'
/-- The best name of valid tags. -/
theorem best_inv {L : List (Str × Str)} (h : tagsB L = true) (G : List Str) : (langsV L = [] ∧ best L G = ([], [])) ∨ ∃ i l, i < L.length ∧ lang (L.getD i dT).1 = some l ∧ best L G = ((L.getD i dT).2, (L.getD i dT).1) ∧ ∀ l' ∈ langsV L, atL G l ≤ atL G l' := by
  have hV : langsV L = langs L := if_pos h
  have hB : best L G = ((bestF G L).1.2, (bestF G L).1.1) := if_pos h
  rcases bestF_inv G L L.length (Nat.le_refl _) with ⟨h1, h2⟩ | ⟨i, l, hi⟩
  · rw [List.take_length] at h2
    refine .inl ⟨?_, by rw [hB, h2]⟩
    rw [hV, List.eq_nil_iff_forall_not_mem]
    intro l hl
    obtain ⟨j, hj, hk⟩ := langs_mem.1 hl
    rw [h1 j hj] at hk; cases hk
  · have hv := hi.val
    rw [List.take_length] at hv
    refine .inr ⟨i, l, hi.lt, hi.own, by rw [hB, hv], fun l' hl' => ?_⟩
    rw [hV] at hl'
    obtain ⟨j, hj, hk⟩ := langs_mem.1 hl'
    exact hi.min j hj l' hk
theorem best_one {L : List (Str × Str)} (h : tagsB L = true) {l : Str} (hl : l ∈ langsV L) : lang (best L [l]).2 = some l := by
  rcases best_inv h [l] with ⟨h1, _⟩ | ⟨i, l', h1, h2, h3, h4⟩
  · rw [h1] at hl; cases hl
  · rw [h3]
    have h5 := h4 l hl
    have h6 : atL [l] l = 0 := by have := idx_found (L := [l]) (v := l) (i := 0) (by simp) rfl (fun j h => absurd h (Nat.not_lt_zero j)); simp [atL, this]
    have : l' ∈ [l] := by
      by_cases hm : l' ∈ [l]
      · exact hm
      · have h7 : 1 ≤ atL [l] l' := by
          unfold atL; rw [idx_not hm, if_neg (by omega)]; split <;> simp
        omega
    rw [List.mem_singleton] at this
    rw [← this]; exact h2
theorem best_other {L : List (Str × Str)} {t : Str} (ht : ¬t ∈ langsV L) : best L [t] = best L [] := by
  by_cases h : tagsB L = true
  · have hV : langsV L = langs L := if_pos h
    rw [hV] at ht
    have hs : ∀ n, n ≤ L.length → bestF [t] (L.take n) = ((bestF [] (L.take n)).1, (bestF [] (L.take n)).2 + 1) := by
      intro n
      induction n with
      | zero => intro _; rfl
      | succ n ih =>
        intro hn
        rw [bestF_step (by omega), bestF_step (by omega), ih (by omega)]
        generalize bestF [] (L.take n) = b
        unfold bestStep
        cases hl : lang (L.getD n dT).1 with
        | none => rfl
        | some l =>
          have hne : ¬l ∈ [t] := fun e => ht (by
            rw [List.mem_singleton] at e
            rw [← e]; exact langs_mem.2 ⟨n, by omega, hl⟩)
          have e : atL [t] l = atL [] l + 1 := by
            unfold atL
            rw [idx_not hne, idx_not (G := []) (by simp)]
            simp only [show ¬(0 : Int) ≤ -1 by omega, if_false]
            by_cases hl0 : l = [] <;> simp [hl0]
          show (if atL [t] l < b.2 + 1 then (L.getD n dT, atL [t] l) else (b.1, b.2 + 1)) = ((if atL [] l < b.2 then (L.getD n dT, atL [] l) else b).1, (if atL [] l < b.2 then (L.getD n dT, atL [] l) else b).2 + 1)
          rw [e]
          by_cases hc : atL [] l < b.2
          · rw [if_pos (by omega), if_pos hc]
          · rw [if_neg (by omega), if_neg hc]
    have := hs L.length (Nat.le_refl _)
    rw [List.take_length] at this
    unfold best
    rw [if_pos h, if_pos h, this]
  · unfold best; rw [if_neg h, if_neg h]
theorem atL_mem {G : List Str} {l : Str} (h : l ∈ G) : atL G l = idx G l := if_pos (idx_of h).1
theorem atL_out {G : List Str} {l : Str} (h : ¬l ∈ G) : (G.length : Int) ≤ atL G l := by
  unfold atL; rw [idx_not h, if_neg (by omega)]; split <;> omega
theorem idx_app {G : List Str} {f l : Str} (h : l ∈ G) : idx (G ++ [f]) l = idx G l := by
  obtain ⟨h1, h2, h3, h4⟩ := idx_of h
  have gl : ∀ j, j < G.length → (G ++ [f]).getD j [] = G.getD j [] := fun j hj => by
    rw [List.getD_eq_getElem?_getD, List.getElem?_append_left hj, List.getD_eq_getElem?_getD]
  rw [idx_found (L := G ++ [f]) (i := (idx G l).toNat) (by simp; omega) (by rw [gl _ h2]; exact h3.symm) fun j hj e => h4 j hj (by rw [← gl j (by omega)]; exact e.symm)]
  omega
theorem idx_inj {G : List Str} {a b : Str} (ha : a ∈ G) (hb : b ∈ G) (e : idx G a = idx G b) : a = b := by
  rw [← (idx_of ha).2.2.1, ← (idx_of hb).2.2.1, e]
/-- A further language at the end changes nothing where the best is in one that was asked for. -/
theorem best_further {L : List (Str × Str)} (h : tagsB L = true) {G : List Str} {f l : Str} (hl : lang (best L G).2 = some l) (hG : l ∈ G) : best L (G ++ [f]) = best L G := by
  rcases best_inv h G with ⟨_, h2⟩ | ⟨i, l1, h1, h2, h3, h4⟩
  · rw [h2] at hl; cases hl
  · rw [h3] at hl ⊢
    obtain rfl : l1 = l := Option.some.inj (h2.symm.trans hl)
    have hV : langsV L = langs L := if_pos h
    have hm1 : l1 ∈ langsV L := by rw [hV]; exact langs_mem.2 ⟨i, h1, h2⟩
    rcases best_inv h (G ++ [f]) with ⟨k1, _⟩ | ⟨j, l2, k1, k2, k3, k4⟩
    · rw [k1] at hm1; cases hm1
    · have hm2 : l2 ∈ langsV L := by rw [hV]; exact langs_mem.2 ⟨j, k1, k2⟩
      have e1 := k4 l1 hm1
      have e2 := h4 l2 hm2
      rw [atL_mem hG] at e2
      rw [atL_mem (List.mem_append_left _ hG), idx_app hG] at e1
      have b1 := idx_of hG
      have hG2 : l2 ∈ G := by
        by_cases hm : l2 ∈ G
        · exact hm
        · exfalso
          by_cases hm' : l2 ∈ G ++ [f]
          · have c1 := idx_of hm'
            rw [atL_mem hm'] at e1
            apply hm
            have : (idx (G ++ [f]) l2).toNat < G.length := by omega
            rw [← c1.2.2.1, List.getD_eq_getElem?_getD, List.getElem?_append_left this, List.getElem?_eq_getElem this]
            exact List.getElem_mem this
          · have := atL_out hm'
            rw [List.length_append] at this
            simp only [List.length_cons, List.length_nil] at this
            omega
      rw [atL_mem (List.mem_append_left _ hG2), idx_app hG2] at e1
      rw [atL_mem hG2] at e2
      have : l1 = l2 := idx_inj hG hG2 (by omega)
      rw [← this] at k2
      have : i = j := key_inj h h1 k1 (lang_inj h2 k2)
      rw [k3, this]
theorem best_before {L : List (Str × Str)} (h : tagsB L = true) {G : List Str} {l : Str} (hl : lang (best L G).2 = some l) {j : Nat} (hj : j < G.length) (hw : ∀ k, k ≤ j → G.getD k [] ≠ l) : ¬G.getD j [] ∈ langsV L := by
  intro hm
  rcases best_inv h G with ⟨_, h2⟩ | ⟨i, l1, h1, h2, h3, h4⟩
  · rw [h2] at hl; cases hl
  · rw [h3] at hl
    obtain rfl : l1 = l := Option.some.inj (h2.symm.trans hl)
    have e := h4 _ hm
    have hjm : G.getD j [] ∈ G := by rw [List.getD_eq_getElem?_getD, List.getElem?_eq_getElem hj]; exact List.getElem_mem hj
    rw [atL_mem hjm] at e
    have b := idx_of hjm
    have hle : (idx G (G.getD j [])).toNat ≤ j := by
      by_cases hc : (idx G (G.getD j [])).toNat ≤ j
      · exact hc
      · exact absurd rfl (b.2.2.2 j (by omega))
    by_cases hG : l1 ∈ G
    · rw [atL_mem hG] at e
      have c := idx_of hG
      exact hw (idx G l1).toNat (by omega) c.2.2.1
    · have := atL_out hG
      omega
theorem best_key {L : List (Str × Str)} (h : tagsB L = true) (G : List Str) : ((best L G).2 = [] ↔ langsV L = []) ∧ ((best L G).2 = [] → (best L G).1 = []) ∧
    ((best L G).2 ≠ [] → getT L (best L G).2 = some (best L G).1 ∧ ∃ l, lang (best L G).2 = some l ∧ l ∈ langsV L) := by
  have hV : langsV L = langs L := if_pos h
  rcases best_inv h G with ⟨h1, h2⟩ | ⟨i, l, h1, h2, h3, h4⟩
  · rw [h2]; exact ⟨⟨fun _ => h1, fun _ => rfl⟩, fun _ => rfl, fun e => absurd rfl e⟩
  · have hm : l ∈ langsV L := by rw [hV]; exact langs_mem.2 ⟨i, h1, h2⟩
    have hk : (L.getD i dT).1 ≠ [] := fun e => by
      rw [e, show lang [] = none from rfl] at h2; cases h2
    rw [h3]
    refine ⟨⟨fun e => absurd e hk, fun e => by rw [e] at hm; cases hm⟩, fun e => absurd e hk, fun _ => ⟨getT_some h1 rfl fun j hj e => ?_, l, h2, hm⟩⟩
    have := key_inj h (by omega) h1 e
    omega
end Go.Proofs
end
section
/- Law 18: languages. -/
namespace Go.Proofs
open Go.Pm
set_option maxRecDepth 100000
set_option maxHeartbeats 4000000

theorem le_agg1 {x : D} (hx : x.one = true) : AV.le (.agg [.d x]) (.d (.agg [x])) := by
  intro n μ w v h
  cases h with
  | agg _ vs hl ho h =>
    refine .d _ _ (.agg [x] vs hl (fun i c hc => ?_) fun i c v hc hv => ?_)
    · match i, hc with
      | 0, hc => rw [← Option.some.inj hc]; exact hx
      | i + 1, hc => simp at hc
    · match i, hc with
      | 0, hc =>
        obtain rfl := Option.some.inj hc
        have := h 0 _ v rfl hv
        cases this; assumption
      | i + 1, hc => simp at hc
theorem le_map0' : AV.le (.agg [.d .nils]) (.d (encMap [])) := AV.le_trans (le_agg1 rfl) le_map0.av
theorem c36n (l : List (Str × Str)) (L : List Str) : PCall Try.prog 36 [.d (encTags l), .d (encStrs L), .agg [.d .nils]] fun x => x = .d (.bool (few9 l 70 && few18 L 20 && few12 [] 30)) :=
  (c36 l L [] (fun o h => by cases h)).le ⟨AV.le_refl _, AV.le_refl _, le_map0', trivial⟩
theorem c36m (l : List (Str × Str)) : PCall Try.prog 36 [.d (encTags l), .d .nils, .agg [.d .nils]] fun x => x = .d (.bool (few9 l 70 && few18 [] 20 && few12 [] 30)) :=
  (c36 l [] [] (fun o h => by cases h)).le ⟨AV.le_refl _, le_nstrs.av, le_map0', trivial⟩
theorem c39n (l : List (Str × Str)) : PCall Try.prog 39 [.d (encTags l), .d .nils] fun x => x = .tup [.d (.str (best l []).1), .d (.str (best l []).2)] :=
  (c39 l [] (by decide)).le ⟨AV.le_refl _, le_nstrs.av, trivial⟩
theorem c39s (l : List (Str × Str)) (L : List Str) (hL : L.length ≤ 1000000000000000) : PCall Try.prog 39 [.d (encTags l), .d (.list 1 (L.map .str))] fun x => x = .tup [.d (.str (best l L).1), .d (.str (best l L).2)] :=
  (c39 l L hL).le ⟨AV.le_refl _, (le_strs L).av, trivial⟩
theorem c41' (L : List Str) (v : Str) : PCall Try.prog 41 [.d (encStrs L), .d (.str v)] fun x => x = .d (.bool (L.contains v)) := by
  have := c41 L v
  rwa [idx_has] at this
theorem langsV_len {L : List (Str × Str)} : (langsV L).length ≤ 60 := by
  unfold langsV
  by_cases h : tagsB L = true
  · rw [if_pos h]
    have h1 := langs_len L
    have h2 := tagsB_len h
    omega
  · rw [if_neg h]; exact Nat.zero_le _
theorem c39i (l : List (Str × Str)) (L : List Str) (i : Nat) : PCall Try.prog 39 [.d (encTags l), .d (.tab 1 (((i : Int) + 1).toNat - (i : Int).toNat) fun k => (fun j => D.str (L.getD j [])) ((i : Int).toNat + k))] fun x => x = .tup [.d (.str (best l [L.getD i []]).1), .d (.str (best l [L.getD i []]).2)] := by
  refine (c39 l [L.getD i []] (by simp)).le ⟨AV.le_refl _, DLe.av ?_, trivial⟩
  rw [show ((i : Int) + 1).toNat - (i : Int).toNat = 1 by omega]
  refine DLe.tab fun k hk => ?_
  have : k = 0 := by omega
  subst this
  rfl
theorem c11 (l : List (Str × Str)) (t : Str) : PCall Try.prog 11 [.d (encTags l), .d (.str t)] fun x => x = .d (.bool true) := by
  refine PCall.intro Try.tabOk Try.f11 _ Try.func11 rfl (by decide) rfl fun z => ?_
  repeat' first
    | (with_reducible refine AW.seq ?_)
    | ((with_reducible refine AW.region Try.tabOk ?_); (conv => whnf))
    | ((with_reducible refine AW.draw Try.tabOk Try.mixed ?_ ?_); (focus rfl); (conv => whnf))
    | ((with_reducible refine AW.ret ?_); (conv => whnf))
    | ((with_reducible refine AW.block ?_))
    | (with_reducible refine AW.scope ?_)
    | ((with_reducible refine AW.label ?_); (conv => whnf))
    | ((with_reducible refine AW.exit ?_); (conv => whnf))
    | ((with_reducible refine AW.skip ?_); (conv => whnf))
    | ((with_reducible refine AW.cond ?_); (conv => whnf))
    | ((with_reducible refine Own2.data ?_); (conv => whnf))
    | ((with_reducible refine ACall.id ?_); (refine PCall.call (by first | exact c33 | exact c36m _ | exact c37 _ | exact c38 _) rfl ?_); (intro x hx; first | subst hx | (obtain ⟨l_, rfl, hl_⟩ := hx.out)); (conv => whnf))
    | ((with_reducible refine ACall.freeze rfl ?_); (conv => whnf))
    | (refine ⟨true, _, rfl, ?_⟩; (conv => whnf))
    | (refine ⟨false, .nilp, rfl, ?_⟩; (conv => whnf))
    | (refine ⟨_, _, by first | exact c33 | exact c36m _ | exact c37 _ | exact c38 _, ?_⟩; (conv => whnf))
    | ((with_reducible apply Or.inl); (refine ⟨rfl, rfl, ?_⟩); (conv => whnf))
    | (refine ⟨_, ⟨rfl, rfl⟩, ?_⟩; (conv => whnf))
    | (refine ⟨_, ⟨rfl, getM (by first | omega | (simp; omega))⟩, ?_⟩; (conv => whnf))
    | ((with_reducible apply Or.inl); apply Exists.intro; apply And.intro; (focus (intro hg; (conv => whnf); (repeat' first | (with_reducible exact ⟨rfl, rfl⟩) | ((with_reducible refine Own2.data ?_); (conv => whnf)) | (refine ⟨true, _, rfl, ?_⟩; (conv => whnf)) | (refine ⟨false, .nilp, rfl, ?_⟩; (conv => whnf)) | (refine ⟨_, _, by first | exact c33 | exact c36m _ | exact c37 _ | exact c38 _, ?_⟩; (conv => whnf)) | ((with_reducible apply Or.inl); (refine ⟨rfl, rfl, ?_⟩); (conv => whnf)) | ((with_reducible apply Or.inl); (with_reducible apply And.intro); (focus (simp only [rng]; omega)); (conv => whnf)) | (refine ⟨by first | omega | (simp at hg ⊢; omega) | (simp_all; first | done | fail), ?_⟩; (conv => whnf)) | ((with_reducible refine ACall.id ?_); (refine PCall.call (by first | exact c33 | exact c36m _ | exact c37 _ | exact c38 _) rfl ?_); (intro x hx; first | subst hx | (obtain ⟨l_, rfl, hl_⟩ := hx.out)); (conv => whnf)) | (intro hlen; (conv => whnf))); done)); (conv => whnf))
    | (apply Exists.intro; apply And.intro; (focus (first | (intro hg; (conv => whnf)) | (conv => whnf)); (repeat' first | (with_reducible exact ⟨rfl, rfl⟩) | ((with_reducible refine Own2.data ?_); (conv => whnf)) | (refine ⟨true, _, rfl, ?_⟩; (conv => whnf)) | (refine ⟨false, .nilp, rfl, ?_⟩; (conv => whnf)) | (refine ⟨_, _, by first | exact c33 | exact c36m _ | exact c37 _ | exact c38 _, ?_⟩; (conv => whnf)) | ((with_reducible apply Or.inl); (refine ⟨rfl, rfl, ?_⟩); (conv => whnf)) | ((with_reducible apply Or.inl); (with_reducible apply And.intro); (focus (simp only [rng]; omega)); (conv => whnf)) | (refine ⟨by first | omega | (simp at hg ⊢; omega) | (simp_all; first | done | fail), ?_⟩; (conv => whnf)) | ((with_reducible refine ACall.id ?_); (refine PCall.call (by first | exact c33 | exact c36m _ | exact c37 _ | exact c38 _) rfl ?_); (intro x hx; first | subst hx | (obtain ⟨l_, rfl, hl_⟩ := hx.out)); (conv => whnf)) | (intro hlen; (conv => whnf))); done); (conv => whnf))
    | ((with_reducible apply Or.inl); (with_reducible apply And.intro); (focus (simp only [rng]; omega)); (conv => whnf))
    | ((with_reducible apply Or.inr); (with_reducible apply And.intro) <;> (intro hb; (try simp at hb); (try (exfalso; first | omega | (simp_all; first | done | fail))); (try (conv => whnf))))
    | ((with_reducible apply And.intro); (focus (first | omega | (exact True.intro) | (simp; omega) | (exact Nat.le_of_ble_eq_true rfl) | (exact ⟨rfl, Nat.le_of_ble_eq_true rfl⟩) | (exact ⟨Nat.le_of_ble_eq_true rfl, Nat.le_of_ble_eq_true rfl⟩) | (intro hg; first | (simp; first | done | fail) | (simp at hg ⊢; exact hg) | (simp at hg; exact hg) | exact hg))); (conv => whnf))
    | ((with_reducible apply And.intro) <;> (intro hb; (try simp at hb); (try (exfalso; first | omega | (simp_all; first | done | fail))); (try (conv => whnf))))
    | (intro hlen; (conv => whnf))
    | ((with_reducible refine And.intro (Side.out ?_) ?_); rotate_left; (conv => whnf); rotate_right)
  refine AW.loopS (X := Nat) [6, 5, 0, 1] [] (fun i => [(7, .d (.int .i64 (i : Int)))]) (fun _ => []) (fun _ => 0)
    (fun i => i ≤ (langsV l).length) (fun i => (langsV l).length - i) 0 (Nat.zero_le _) (fun _ _ => rfl) (by refine ⟨rfl, rfl, rfl, ?_, ?_⟩ <;> repeat' (first | exact trivial | exact OLe.refl _ | exact AV.le_refl _ | apply And.intro)) ?_
  intro i hi
  have hlen60 := langsV_len (L := l)
  repeat' first
    | (with_reducible refine AW.seq ?_)
    | ((with_reducible refine AW.region Try.tabOk ?_); (conv => whnf))
    | ((with_reducible refine AW.draw Try.tabOk Try.mixed ?_ ?_); (focus rfl); (conv => whnf))
    | ((with_reducible refine AW.ret ?_); (conv => whnf))
    | ((with_reducible refine AW.block ?_))
    | (with_reducible refine AW.scope ?_)
    | ((with_reducible refine AW.label ?_); (conv => whnf))
    | ((with_reducible refine AW.exit ?_); (conv => whnf))
    | ((with_reducible refine AW.skip ?_); (conv => whnf))
    | ((with_reducible refine AW.cond ?_); (conv => whnf))
    | ((with_reducible refine Own2.data ?_); (conv => whnf))
    | ((with_reducible refine ACall.id ?_); (refine PCall.call (by first | exact c39n _ | exact c39i _ _ _ | exact c39s _ [t] (by simp) | exact c40 _ | exact c41' _ _) rfl ?_); (intro x hx; first | subst hx | (obtain ⟨l_, rfl, hl_⟩ := hx.out)); (conv => whnf))
    | ((with_reducible refine ACall.freeze rfl ?_); (conv => whnf))
    | (refine ⟨true, _, rfl, ?_⟩; (conv => whnf))
    | (refine ⟨false, .nilp, rfl, ?_⟩; (conv => whnf))
    | (refine ⟨_, _, by first | exact c39n _ | exact c39i _ _ _ | exact c39s _ [t] (by simp) | exact c40 _ | exact c41' _ _, ?_⟩; (conv => whnf))
    | ((with_reducible apply Or.inl); (refine ⟨rfl, rfl, ?_⟩); (conv => whnf))
    | (refine ⟨_, ⟨rfl, rfl⟩, ?_⟩; (conv => whnf))
    | (refine ⟨_, ⟨rfl, getM (by first | omega | (simp; omega))⟩, ?_⟩; (conv => whnf))
    | ((with_reducible apply Or.inl); apply Exists.intro; apply And.intro; (focus (intro hg; (conv => whnf); (repeat' first | (with_reducible exact ⟨rfl, rfl⟩) | ((with_reducible refine Own2.data ?_); (conv => whnf)) | (refine ⟨true, _, rfl, ?_⟩; (conv => whnf)) | (refine ⟨false, .nilp, rfl, ?_⟩; (conv => whnf)) | (refine ⟨_, _, by first | exact c39n _ | exact c39i _ _ _ | exact c39s _ [t] (by simp) | exact c40 _ | exact c41' _ _, ?_⟩; (conv => whnf)) | ((with_reducible apply Or.inl); (refine ⟨rfl, rfl, ?_⟩); (conv => whnf)) | ((with_reducible apply Or.inl); (with_reducible apply And.intro); (focus (simp only [rng]; omega)); (conv => whnf)) | (refine ⟨by first | omega | (simp at hg ⊢; omega) | (simp_all; first | done | fail), ?_⟩; (conv => whnf)) | ((with_reducible refine ACall.id ?_); (refine PCall.call (by first | exact c39n _ | exact c39i _ _ _ | exact c39s _ [t] (by simp) | exact c40 _ | exact c41' _ _) rfl ?_); (intro x hx; first | subst hx | (obtain ⟨l_, rfl, hl_⟩ := hx.out)); (conv => whnf)) | (intro hlen; (conv => whnf))); done)); (conv => whnf))
    | (apply Exists.intro; apply And.intro; (focus (first | (intro hg; (conv => whnf)) | (conv => whnf)); (repeat' first | (with_reducible exact ⟨rfl, rfl⟩) | ((with_reducible refine Own2.data ?_); (conv => whnf)) | (refine ⟨true, _, rfl, ?_⟩; (conv => whnf)) | (refine ⟨false, .nilp, rfl, ?_⟩; (conv => whnf)) | (refine ⟨_, _, by first | exact c39n _ | exact c39i _ _ _ | exact c39s _ [t] (by simp) | exact c40 _ | exact c41' _ _, ?_⟩; (conv => whnf)) | ((with_reducible apply Or.inl); (refine ⟨rfl, rfl, ?_⟩); (conv => whnf)) | ((with_reducible apply Or.inl); (with_reducible apply And.intro); (focus (simp only [rng]; omega)); (conv => whnf)) | (refine ⟨by first | omega | (simp at hg ⊢; omega) | (simp_all; first | done | fail), ?_⟩; (conv => whnf)) | ((with_reducible refine ACall.id ?_); (refine PCall.call (by first | exact c39n _ | exact c39i _ _ _ | exact c39s _ [t] (by simp) | exact c40 _ | exact c41' _ _) rfl ?_); (intro x hx; first | subst hx | (obtain ⟨l_, rfl, hl_⟩ := hx.out)); (conv => whnf)) | (intro hlen; (conv => whnf))); done); (conv => whnf))
    | ((with_reducible apply Or.inl); (with_reducible apply And.intro); (focus (simp only [rng]; omega)); (conv => whnf))
    | ((with_reducible apply Or.inr); (with_reducible apply And.intro) <;> (intro hb; (try simp at hb); (try (exfalso; first | omega | (simp_all; first | done | fail))); (try (conv => whnf))))
    | ((with_reducible apply And.intro); (focus (first | omega | (exact True.intro) | (simp; omega) | (exact Nat.le_of_ble_eq_true rfl) | (exact ⟨rfl, Nat.le_of_ble_eq_true rfl⟩) | (exact ⟨Nat.le_of_ble_eq_true rfl, Nat.le_of_ble_eq_true rfl⟩) | (intro hg; first | (simp; first | done | fail) | (simp at hg ⊢; exact hg) | (simp at hg; exact hg) | exact hg))); (conv => whnf))
    | ((with_reducible apply And.intro) <;> (intro hb; (try simp at hb); (try (exfalso; first | omega | (simp_all; first | done | fail))); (try (conv => whnf))))
    | (intro hlen; (conv => whnf))
    | ((with_reducible refine And.intro (Side.out ?_) ?_); rotate_left; (conv => whnf); rotate_right)
  · rename_i hb
    have hit : i < (langsV l).length := by assumption
    have hT : tagsB l = true := by
      have := (by assumption : (((few9 l 70 = true ∧ few18 [] 20 = true) ∧ few12 [] 30 = true) ∧ (t.length : Int) ≤ 30) ∧ tagsB l = true)
      exact this.2
    exfalso
    have e : (langsV l)[i]?.getD [] = (langsV l)[i] := by rw [List.getElem?_eq_getElem hit]; rfl
    have h1 := best_one hT (List.getElem_mem hit)
    rw [e, h1] at hb
    rcases hb with (hb | hb) | ⟨h0, hb⟩
    · cases hb
    · exact hb rfl
    · have h2 := langsV_lt (L := l) (i := i - 1) (by omega)
      rw [show i - 1 + 1 = i by omega, List.getD_eq_getElem?_getD, List.getD_eq_getElem?_getD, e] at h2
      rw [show ltS _ _ = Op.bytesLess _ _ from rfl] at h2
      rw [h2] at hb; cases hb
  · exact .mk (i + 1) (by assumption) (by show (langsV l).length - (i + 1) < (langsV l).length - i; omega) (by refine ⟨rfl, rfl, rfl, ?_, ?_, rfl⟩ <;> repeat' (first | exact trivial | exact OLe.refl _ | exact AV.le_refl _ | apply And.intro))
  · by_cases hm : t ∈ langsV l
    · simp [hm]
    · rw [best_other hm]; simp
end Go.Proofs
end
section
/- Law 18: the best name. -/
namespace Go.Proofs
open Go.Pm
set_option maxRecDepth 100000
set_option maxHeartbeats 4000000

theorem few18_len {L : List Str} {n : Int} (h : few18 L n = true) : (L.length : Int) ≤ n := by
  simp only [few18, Bool.and_eq_true, decide_eq_true_eq] at h; exact h.1
theorem c39f (l : List (Str × Str)) (L : List Str) (t : Str) (hL : L.length ≤ 20) : PCall Try.prog 39 [.d (encTags l), .d (.list 1 (([] ++ tabl L.length fun i => D.str (L.getD i [])) ++ [D.str t]))] fun x => x = .tup [.d (.str (best l (L ++ [t])).1), .d (.str (best l (L ++ [t])).2)] := by
  have e : (([] ++ tabl L.length fun i => D.str (L.getD i [])) ++ [D.str t]) = (L ++ [t]).map .str := by
    rw [List.nil_append, List.map_append]
    congr 1
    apply List.ext_getElem?
    intro i
    by_cases hi : i < L.length
    · rw [tabl_get _ _ _ hi]; simp [hi]
    · rw [List.getElem?_eq_none (by rw [tabl_length]; omega), List.getElem?_eq_none (by rw [List.length_map]; omega)]
  rw [e]
  exact (c39 l (L ++ [t]) (by simp; omega)).le ⟨AV.le_refl _, (le_strs _).av, trivial⟩
theorem upto_le {p : Nat → Prop} {i : Nat} (hw : ∀ k, k < i → p k) (hi : p i) : ∀ k, k ≤ i → p k := fun k hk => by
  by_cases e : k = i
  · subst e; exact hi
  · exact hw k (by omega)
theorem c12 (l : List (Str × Str)) (L : List Str) (t : Str) : PCall Try.prog 12 [.d (encTags l), .d (encStrs L), .d (.str t)] fun x => x = .d (.bool true) := by
  refine PCall.intro Try.tabOk Try.f12 _ Try.func12 rfl (by decide) rfl fun z => ?_
  repeat' first
    | (with_reducible refine AW.seq ?_)
    | ((with_reducible refine AW.region Try.tabOk ?_); (conv => whnf))
    | ((with_reducible refine AW.draw Try.tabOk Try.mixed ?_ ?_); (focus rfl); (conv => whnf))
    | ((with_reducible refine AW.ret ?_); (conv => whnf))
    | ((with_reducible refine AW.block ?_))
    | (with_reducible refine AW.scope ?_)
    | ((with_reducible refine AW.label ?_); (conv => whnf))
    | ((with_reducible refine AW.exit ?_); (conv => whnf))
    | ((with_reducible refine AW.skip ?_); (conv => whnf))
    | ((with_reducible refine AW.cond ?_); (conv => whnf))
    | ((with_reducible refine Own2.data ?_); (conv => whnf))
    | ((with_reducible refine ACall.id ?_); (refine PCall.call (by first | exact c33 | exact c36n _ _ | exact c37 _) rfl ?_); (intro x hx; first | subst hx | (obtain ⟨l_, rfl, hl_⟩ := hx.out)); (conv => whnf))
    | ((with_reducible refine ACall.freeze rfl ?_); (conv => whnf))
    | (refine ⟨true, _, rfl, ?_⟩; (conv => whnf))
    | (refine ⟨false, .nilp, rfl, ?_⟩; (conv => whnf))
    | (refine ⟨_, _, by first | exact c33 | exact c36n _ _ | exact c37 _, ?_⟩; (conv => whnf))
    | ((with_reducible apply Or.inl); (refine ⟨rfl, rfl, ?_⟩); (conv => whnf))
    | (refine ⟨_, ⟨rfl, rfl⟩, ?_⟩; (conv => whnf))
    | (refine ⟨_, ⟨rfl, getM (by first | omega | (simp; omega))⟩, ?_⟩; (conv => whnf))
    | ((with_reducible apply Or.inl); apply Exists.intro; apply And.intro; (focus (intro hg; (conv => whnf); (repeat' first | (with_reducible exact ⟨rfl, rfl⟩) | ((with_reducible refine Own2.data ?_); (conv => whnf)) | (refine ⟨true, _, rfl, ?_⟩; (conv => whnf)) | (refine ⟨false, .nilp, rfl, ?_⟩; (conv => whnf)) | (refine ⟨_, _, by first | exact c33 | exact c36n _ _ | exact c37 _, ?_⟩; (conv => whnf)) | ((with_reducible apply Or.inl); (refine ⟨rfl, rfl, ?_⟩); (conv => whnf)) | ((with_reducible apply Or.inl); (with_reducible apply And.intro); (focus (simp only [rng]; omega)); (conv => whnf)) | (refine ⟨by first | omega | (simp at hg ⊢; omega) | (simp_all; first | done | fail), ?_⟩; (conv => whnf)) | ((with_reducible refine ACall.id ?_); (refine PCall.call (by first | exact c33 | exact c36n _ _ | exact c37 _) rfl ?_); (intro x hx; first | subst hx | (obtain ⟨l_, rfl, hl_⟩ := hx.out)); (conv => whnf)) | (intro hlen; (conv => whnf))); done)); (conv => whnf))
    | (apply Exists.intro; apply And.intro; (focus (first | (intro hg; (conv => whnf)) | (conv => whnf)); (repeat' first | (with_reducible exact ⟨rfl, rfl⟩) | ((with_reducible refine Own2.data ?_); (conv => whnf)) | (refine ⟨true, _, rfl, ?_⟩; (conv => whnf)) | (refine ⟨false, .nilp, rfl, ?_⟩; (conv => whnf)) | (refine ⟨_, _, by first | exact c33 | exact c36n _ _ | exact c37 _, ?_⟩; (conv => whnf)) | ((with_reducible apply Or.inl); (refine ⟨rfl, rfl, ?_⟩); (conv => whnf)) | ((with_reducible apply Or.inl); (with_reducible apply And.intro); (focus (simp only [rng]; omega)); (conv => whnf)) | (refine ⟨by first | omega | (simp at hg ⊢; omega) | (simp_all; first | done | fail), ?_⟩; (conv => whnf)) | ((with_reducible refine ACall.id ?_); (refine PCall.call (by first | exact c33 | exact c36n _ _ | exact c37 _) rfl ?_); (intro x hx; first | subst hx | (obtain ⟨l_, rfl, hl_⟩ := hx.out)); (conv => whnf)) | (intro hlen; (conv => whnf))); done); (conv => whnf))
    | ((with_reducible apply Or.inl); (with_reducible apply And.intro); (focus (simp only [rng]; omega)); (conv => whnf))
    | ((with_reducible apply Or.inr); (with_reducible apply And.intro) <;> (intro hb; (try simp at hb); (try (exfalso; first | omega | (simp_all; first | done | fail))); (try (conv => whnf))))
    | ((with_reducible apply And.intro); (focus (first | omega | (exact True.intro) | (simp; omega) | (exact Nat.le_of_ble_eq_true rfl) | (exact ⟨rfl, Nat.le_of_ble_eq_true rfl⟩) | (exact ⟨Nat.le_of_ble_eq_true rfl, Nat.le_of_ble_eq_true rfl⟩) | (intro hg; first | (simp; first | done | fail) | (simp at hg ⊢; exact hg) | (simp at hg; exact hg) | exact hg))); (conv => whnf))
    | ((with_reducible apply And.intro) <;> (intro hb; (try simp at hb); (try (exfalso; first | omega | (simp_all; first | done | fail))); (try (conv => whnf))))
    | (intro hlen; (conv => whnf))
    | ((with_reducible refine And.intro (Side.out ?_) ?_); rotate_left; (conv => whnf); rotate_right)
  have hb := (by assumption : (((few9 l 70 = true ∧ few18 L 20 = true) ∧ few12 [] 30 = true) ∧ (t.length : Int) ≤ 30) ∧ tagsB l = true)
  have hL := few18_len hb.1.1.1.2
  have hT := hb.2
  have hK := (best_key hT L).1
  repeat' first
    | (with_reducible refine AW.seq ?_)
    | ((with_reducible refine AW.region Try.tabOk ?_); (conv => whnf))
    | ((with_reducible refine AW.draw Try.tabOk Try.mixed ?_ ?_); (focus rfl); (conv => whnf))
    | ((with_reducible refine AW.ret ?_); (conv => whnf))
    | ((with_reducible refine AW.block ?_))
    | (with_reducible refine AW.scope ?_)
    | ((with_reducible refine AW.label ?_); (conv => whnf))
    | ((with_reducible refine AW.exit ?_); (conv => whnf))
    | ((with_reducible refine AW.skip ?_); (conv => whnf))
    | ((with_reducible refine AW.cond ?_); (conv => whnf))
    | ((with_reducible refine Own2.own ?_); (conv => whnf))
    | ((with_reducible refine ACall.id ?_); (refine PCall.call (by first | exact c38 _ | exact c39 _ _ (by omega) | exact c39f _ _ _ (by omega) | exact c40 _ | exact c41' _ _ | exact c42 _ _) rfl ?_); (intro x hx; first | subst hx | (obtain ⟨l_, rfl, hl_⟩ := hx.out)); (conv => whnf))
    | ((with_reducible refine ACall.freeze rfl ?_); (conv => whnf))
    | (refine ⟨true, _, rfl, ?_⟩; (conv => whnf))
    | (refine ⟨false, .nilp, rfl, ?_⟩; (conv => whnf))
    | (refine ⟨_, _, by first | exact c38 _ | exact c39 _ _ (by omega) | exact c39f _ _ _ (by omega) | exact c40 _ | exact c41' _ _ | exact c42 _ _, ?_⟩; (conv => whnf))
    | ((with_reducible apply Or.inl); (refine ⟨rfl, rfl, ?_⟩); (conv => whnf))
    | (refine ⟨_, ⟨rfl, rfl⟩, ?_⟩; (conv => whnf))
    | (refine ⟨_, ⟨rfl, getM (by first | omega | (simp; omega))⟩, ?_⟩; (conv => whnf))
    | ((with_reducible apply Or.inl); apply Exists.intro; apply And.intro; (focus (intro hg; (conv => whnf); (repeat' first | (with_reducible exact ⟨rfl, rfl⟩) | ((with_reducible refine Own2.own ?_); (conv => whnf)) | (refine ⟨true, _, rfl, ?_⟩; (conv => whnf)) | (refine ⟨false, .nilp, rfl, ?_⟩; (conv => whnf)) | (refine ⟨_, _, by first | exact c38 _ | exact c39 _ _ (by omega) | exact c39f _ _ _ (by omega) | exact c40 _ | exact c41' _ _ | exact c42 _ _, ?_⟩; (conv => whnf)) | ((with_reducible apply Or.inl); (refine ⟨rfl, rfl, ?_⟩); (conv => whnf)) | ((with_reducible apply Or.inl); (with_reducible apply And.intro); (focus (simp only [rng]; omega)); (conv => whnf)) | (refine ⟨by first | omega | (simp at hg ⊢; omega) | (simp_all; first | done | fail), ?_⟩; (conv => whnf)) | ((with_reducible refine ACall.id ?_); (refine PCall.call (by first | exact c38 _ | exact c39 _ _ (by omega) | exact c39f _ _ _ (by omega) | exact c40 _ | exact c41' _ _ | exact c42 _ _) rfl ?_); (intro x hx; first | subst hx | (obtain ⟨l_, rfl, hl_⟩ := hx.out)); (conv => whnf)) | (intro hlen; (conv => whnf))); done)); (conv => whnf))
    | (apply Exists.intro; apply And.intro; (focus (first | (intro hg; (conv => whnf)) | (conv => whnf)); (repeat' first | (with_reducible exact ⟨rfl, rfl⟩) | ((with_reducible refine Own2.own ?_); (conv => whnf)) | (refine ⟨true, _, rfl, ?_⟩; (conv => whnf)) | (refine ⟨false, .nilp, rfl, ?_⟩; (conv => whnf)) | (refine ⟨_, _, by first | exact c38 _ | exact c39 _ _ (by omega) | exact c39f _ _ _ (by omega) | exact c40 _ | exact c41' _ _ | exact c42 _ _, ?_⟩; (conv => whnf)) | ((with_reducible apply Or.inl); (refine ⟨rfl, rfl, ?_⟩); (conv => whnf)) | ((with_reducible apply Or.inl); (with_reducible apply And.intro); (focus (simp only [rng]; omega)); (conv => whnf)) | (refine ⟨by first | omega | (simp at hg ⊢; omega) | (simp_all; first | done | fail), ?_⟩; (conv => whnf)) | ((with_reducible refine ACall.id ?_); (refine PCall.call (by first | exact c38 _ | exact c39 _ _ (by omega) | exact c39f _ _ _ (by omega) | exact c40 _ | exact c41' _ _ | exact c42 _ _) rfl ?_); (intro x hx; first | subst hx | (obtain ⟨l_, rfl, hl_⟩ := hx.out)); (conv => whnf)) | (intro hlen; (conv => whnf))); done); (conv => whnf))
    | ((with_reducible apply Or.inl); (with_reducible apply And.intro); (focus (simp only [rng]; omega)); (conv => whnf))
    | ((with_reducible apply Or.inr); (with_reducible apply And.intro) <;> (intro hb; (try simp at hb); (try (exfalso; first | omega | (simp_all; first | done | fail))); (try (conv => whnf))))
    | ((with_reducible apply And.intro); (focus (first | omega | (exact True.intro) | (simp; omega) | (exact Nat.le_of_ble_eq_true rfl) | (exact ⟨rfl, Nat.le_of_ble_eq_true rfl⟩) | (exact ⟨Nat.le_of_ble_eq_true rfl, Nat.le_of_ble_eq_true rfl⟩) | (intro hg; first | (simp; first | done | fail) | (simp at hg ⊢; exact hg) | (simp at hg; exact hg) | exact hg))); (conv => whnf))
    | ((with_reducible apply And.intro) <;> (intro hb; (try simp at hb); (try (exfalso; first | omega | (simp_all; first | done | fail))); (try (conv => whnf))))
    | (intro hlen; (conv => whnf))
    | ((with_reducible refine And.intro (Side.out ?_) ?_); rotate_left; (conv => whnf); rotate_right)
  all_goals have hK2 := best_key hT L
  · rename_i hb hK2
    exfalso
    rcases hb with hb | ⟨h1, hb⟩
    · apply hb
      rw [Bool.eq_iff_iff]
      simp [hK]
    · have h3 := (hK2.2.2 h1).1
      rw [h3] at hb
      simp at hb
  · rename_i hb hK2
    rw [hK2.2.1 hb]; rfl
  · rename_i hb hK2
    exfalso
    obtain ⟨_, l1, h3, h4⟩ := hK2.2.2 (by assumption)
    rw [h3] at hb
    simp [h4] at hb
  · exact ⟨rfl, by rw [tabl_length]; simp; omega, by rw [tabl_length]; simp [maxLen]; omega⟩
  · exact ⟨rfl, by rw [List.nil_append, tabl_length]; simp; omega, by rw [List.nil_append, tabl_length]; simp [maxLen]; omega⟩
  · rename_i hb hK2
    exfalso
    obtain ⟨_, l1, h3, h4⟩ := hK2.2.2 (by assumption)
    have h5 := (by assumption : (lang (best l L).2).getD [] ∈ L)
    rw [h3] at h5
    have := best_further hT (f := t) h3 h5
    rw [this] at hb
    simp at hb
  · obtain ⟨_, l1, h3, h4⟩ := hK2.2.2 (by assumption)
    refine AW.loopS (X := Nat) [13, 10, 7, 1] [] (fun i => [(17, .d (.int .i64 (i : Int)))]) (fun _ => []) (fun _ => 2)
      (fun i => i ≤ L.length ∧ ∀ k, k < i → L.getD k [] ≠ l1) (fun i => L.length - i) 0 ⟨Nat.zero_le _, fun k h => absurd h (Nat.not_lt_zero k)⟩ (fun _ _ => rfl) (by refine ⟨rfl, rfl, rfl, ?_, ?_⟩ <;> repeat' (first | exact trivial | exact OLe.refl _ | exact AV.le_refl _ | apply And.intro)) ?_
    intro i ⟨hi, hw⟩
    repeat' first
      | (with_reducible refine AW.seq ?_)
      | ((with_reducible refine AW.region Try.tabOk ?_); (conv => whnf))
      | ((with_reducible refine AW.draw Try.tabOk Try.mixed ?_ ?_); (focus rfl); (conv => whnf))
      | ((with_reducible refine AW.ret ?_); (conv => whnf))
      | ((with_reducible refine AW.block ?_))
      | (with_reducible refine AW.scope ?_)
      | ((with_reducible refine AW.label ?_); (conv => whnf))
      | ((with_reducible refine AW.exit ?_); (conv => whnf))
      | ((with_reducible refine AW.skip ?_); (conv => whnf))
      | ((with_reducible refine AW.cond ?_); (conv => whnf))
      | ((with_reducible refine Own2.data ?_); (conv => whnf))
      | ((with_reducible refine ACall.id ?_); (refine PCall.call (by first | exact c41' _ _) rfl ?_); (intro x hx; first | subst hx | (obtain ⟨l_, rfl, hl_⟩ := hx.out)); (conv => whnf))
      | ((with_reducible refine ACall.freeze rfl ?_); (conv => whnf))
      | (refine ⟨true, _, rfl, ?_⟩; (conv => whnf))
      | (refine ⟨false, .nilp, rfl, ?_⟩; (conv => whnf))
      | (refine ⟨_, _, by first | exact c41' _ _, ?_⟩; (conv => whnf))
      | ((with_reducible apply Or.inl); (refine ⟨rfl, rfl, ?_⟩); (conv => whnf))
      | (refine ⟨_, ⟨rfl, rfl⟩, ?_⟩; (conv => whnf))
      | (refine ⟨_, ⟨rfl, getM (by first | omega | (simp; omega))⟩, ?_⟩; (conv => whnf))
      | ((with_reducible apply Or.inl); apply Exists.intro; apply And.intro; (focus (intro hg; (conv => whnf); (repeat' first | (with_reducible exact ⟨rfl, rfl⟩) | ((with_reducible refine Own2.data ?_); (conv => whnf)) | (refine ⟨true, _, rfl, ?_⟩; (conv => whnf)) | (refine ⟨false, .nilp, rfl, ?_⟩; (conv => whnf)) | (refine ⟨_, _, by first | exact c41' _ _, ?_⟩; (conv => whnf)) | ((with_reducible apply Or.inl); (refine ⟨rfl, rfl, ?_⟩); (conv => whnf)) | ((with_reducible apply Or.inl); (with_reducible apply And.intro); (focus (simp only [rng]; omega)); (conv => whnf)) | (refine ⟨by first | omega | (simp at hg ⊢; omega) | (simp_all; first | done | fail), ?_⟩; (conv => whnf)) | ((with_reducible refine ACall.id ?_); (refine PCall.call (by first | exact c41' _ _) rfl ?_); (intro x hx; first | subst hx | (obtain ⟨l_, rfl, hl_⟩ := hx.out)); (conv => whnf)) | (intro hlen; (conv => whnf))); done)); (conv => whnf))
      | (apply Exists.intro; apply And.intro; (focus (first | (intro hg; (conv => whnf)) | (conv => whnf)); (repeat' first | (with_reducible exact ⟨rfl, rfl⟩) | ((with_reducible refine Own2.data ?_); (conv => whnf)) | (refine ⟨true, _, rfl, ?_⟩; (conv => whnf)) | (refine ⟨false, .nilp, rfl, ?_⟩; (conv => whnf)) | (refine ⟨_, _, by first | exact c41' _ _, ?_⟩; (conv => whnf)) | ((with_reducible apply Or.inl); (refine ⟨rfl, rfl, ?_⟩); (conv => whnf)) | ((with_reducible apply Or.inl); (with_reducible apply And.intro); (focus (simp only [rng]; omega)); (conv => whnf)) | (refine ⟨by first | omega | (simp at hg ⊢; omega) | (simp_all; first | done | fail), ?_⟩; (conv => whnf)) | ((with_reducible refine ACall.id ?_); (refine PCall.call (by first | exact c41' _ _) rfl ?_); (intro x hx; first | subst hx | (obtain ⟨l_, rfl, hl_⟩ := hx.out)); (conv => whnf)) | (intro hlen; (conv => whnf))); done); (conv => whnf))
      | ((with_reducible apply Or.inl); (with_reducible apply And.intro); (focus (simp only [rng]; omega)); (conv => whnf))
      | ((with_reducible apply Or.inr); (with_reducible apply And.intro) <;> (intro hb; (try simp at hb); (try (exfalso; first | omega | (simp_all; first | done | fail))); (try (conv => whnf))))
      | ((with_reducible apply And.intro); (focus (first | omega | (exact True.intro) | (simp; omega) | (exact Nat.le_of_ble_eq_true rfl) | (exact ⟨rfl, Nat.le_of_ble_eq_true rfl⟩) | (exact ⟨Nat.le_of_ble_eq_true rfl, Nat.le_of_ble_eq_true rfl⟩) | (intro hg; first | (simp; first | done | fail) | (simp at hg ⊢; exact hg) | (simp at hg; exact hg) | exact hg))); (conv => whnf))
      | ((with_reducible apply And.intro) <;> (intro hb; (try simp at hb); (try (exfalso; first | omega | (simp_all; first | done | fail))); (try (conv => whnf))))
      | (intro hlen; (conv => whnf))
      | ((with_reducible refine And.intro (Side.out ?_) ?_); rotate_left; (conv => whnf); rotate_right)
    all_goals have hbi := (by assumption : i < L.length ∧ ¬L[i]?.getD [] = (lang (best l L).2).getD [])
    all_goals rw [h3] at hbi
    all_goals have hw' : ∀ k, k ≤ i → L.getD k [] ≠ l1 := upto_le hw (by rw [List.getD_eq_getElem?_getD]; exact hbi.2)
    · rename_i hb
      exfalso
      have h5 := best_before hT h3 hbi.1 hw'
      rw [List.getD_eq_getElem?_getD] at h5
      exact h5 hb
    · exact .mk (i + 1) ⟨hbi.1, fun k hk => hw' k (by omega)⟩ (by have := hbi.1; show L.length - (i + 1) < L.length - i; omega) (by refine ⟨rfl, rfl, rfl, ?_, ?_, rfl⟩ <;> repeat' (first | exact trivial | exact OLe.refl _ | exact AV.le_refl _ | apply And.intro))
end Go.Proofs
end
