/- A logic of abstract states over the model: its rules are sound. General: no condition on the program. -/
import Derived.Test.YtajnbdjipmckpaaPmG2
import Derived.RangeFuncRecord
import Derived.RangeFuncIn
section
/- Ranges over functions. -/
namespace Go.Pm

def putP : List Tmp → List AV → List (Nat × AV) → List (Nat × AV)
  | p :: ps, x :: xs, tm => putP ps xs ((p, x) :: tm)
  | _, _, tm => tm

def rEnd (l : Nat) (K : AV → Heap → Prop) (jump : Option Code) (s : St) : Prop :=
  match s.hp.get l with
  | .loop _ _ fn N tm ps as bd => match jump with
    | none => K .tt (s.hp.set l (.loop .ready none fn N tm ps as bd))
    | some c => K .ff (s.hp.set l (.loop .done (some c) fn N tm ps as bd))
  | _ => False
def QRound (l : Nat) (K : AV → Heap → Prop) : Exit → St → Prop
  | .normal, s => rEnd l K none s
  | .ret, s => rEnd l K (some .ret) s
  | .exit i, s => rEnd l K (some (.exit i)) s
  | .goto t, s => rEnd l K (some (.goto t)) s
  | _, _ => False
def QAssign (P : Program) (body : Code) (N : Nat) (l : Nat) (K : AV → Heap → Prop) : Exit → St → Prop
  | .normal, ⟨tm, hp, rnd, df⟩ => match hp.get l with
    | .loop .ready pend fn N' tm' ps as bd => AW P body N ⟨tm, hp.set l (.loop .busy pend fn N' tm' ps as bd), rnd, df⟩ (QRound l K)
    | _ => False
  | _, _ => False

/-- A condition that is left for later. -/
structure Side (p : Prop) : Prop where
  out : p
theorem getM {α : Type} [Inhabited α] {f : α → D} {L : List α} {i : Nat} (h : i < L.length) : (L.map f)[i]? = some (f (L.getD i default)) := by
  rw [List.getElem?_map, List.getD_eq_getElem?_getD, List.getElem?_eq_getElem h]; rfl
theorem bif_and (c b : Bool) : (bif c then b else false) = (c && b) := by cases c <;> rfl
theorem bif_or (c b : Bool) : (bif c then true else b) = (c || b) := by cases c <;> rfl

section
variable {P : Program}

theorem putObj_other (w : World) (k i : Nat) (o : Obj) (h : i ≠ k) : (w.putObj k o).heap[i]? = w.heap[i]? := by
  simp [World.putObj, Ne.symm h]
theorem putObj_same (w : World) (k : Nat) (o : Obj) (h : k < w.heap.size) : (w.putObj k o).heap[k]? = some o := by
  simp [World.putObj, h]

/-- A loop's record is written. -/
theorem loop_write {h : Heap} {μ : Mu} {w : World} (hh : HRel h μ w) {l : Nat} {st : LoopState} {pend : Option Code} {fn : FuncId} {N : Nat} {tm : List (Nat × AV)} {ps : Array Tmp} {as bd : Code} (hget : h.get l = .loop st pend fn N tm ps as bd)
    (st' : LoopState) (pend' : Option Code) : ∃ b r, μ l = some b ∧ b.ver = 0 ∧ w.heap[b.blk]? = some (.loop r) ∧ r.state = st ∧ r.pending = pend ∧ r.fn = fn ∧ r.tmps.size = N ∧ (∀ d, ARel h.nx μ w (look tm d) (r.tmps.getD d undef)) ∧ r.params = ps ∧ r.assign = as ∧ r.body = bd ∧
      HRel (h.set l (.loop st' pend' fn N tm ps as bd)) μ (w.putObj b.blk (.loop { r with state := st', pending := pend' })) ∧ Ext h.nx μ w μ (w.putObj b.blk (.loop { r with state := st', pending := pend' })) := by
  have ho := hh.obj l
  rw [hget] at ho
  obtain ⟨b, hb, hv, r, hc, h1, h2, h3, h4, h5, h6, h7, h8⟩ := ho
  have hlt : b.blk < w.heap.size := (Array.getElem?_eq_some_iff.1 hc).1
  obtain ⟨g1, g2⟩ := hh.write (w' := w.putObj b.blk (.loop { r with state := st', pending := pend' })) l b hb (.loop st' pend' fn N tm ps as bd) rfl rfl rfl (by simp [World.putObj]) (fun i hi => putObj_other w _ i _ hi) (fun hext =>
    ⟨b, rfl, hv, _, putObj_same w _ _ hlt, rfl, rfl, h3, h4, fun d => (h5 d).ext hext (Nat.le_refl _), h6, h7, h8⟩)
  exact ⟨b, r, hb, hv, hc, h1, h2, h3, h4, h5, h6, h7, h8, g1, g2⟩

theorem putP_rel {n : Nat} {μ : Mu} {w : World} {N : Nat} : ∀ (ps : List Tmp) (xs : List AV) (vs : List Value) (tm : List (Nat × AV)) (T0 : Array Value), vs.length = xs.length → (∀ p ∈ ps, p < N) → T0.size = N →
    (∀ d, ARel n μ w (look tm d) (T0.getD d undef)) → (∀ (i : Nat) (c : AV) (v : Value), xs[i]? = some c → vs[i]? = some v → ARel n μ w c v) →
    ((ps.zip vs).foldl (fun (t : Array Value) (p : Tmp × Value) => t.setIfInBounds p.1 p.2) T0).size = N ∧ ∀ d, ARel n μ w (look (putP ps xs tm) d) (((ps.zip vs).foldl (fun (t : Array Value) (p : Tmp × Value) => t.setIfInBounds p.1 p.2) T0).getD d undef)
  | [], xs, vs, tm, T0, _, _, hs, hr, _ => by simp [putP, hs]; simpa using hr
  | p :: ps, [], vs, tm, T0, hl, _, hs, hr, _ => by
    have : vs = [] := List.eq_nil_of_length_eq_zero (by simpa using hl)
    subst this
    simp [putP, hs]; simpa using hr
  | p :: ps, x :: xs, [], tm, T0, hl, _, _, _, _ => by simp at hl
  | p :: ps, x :: xs, v :: vs, tm, T0, hl, hp, hs, hr, hx => by
    simp only [List.zip_cons_cons, List.foldl_cons, putP]
    refine putP_rel ps xs vs _ _ (by simpa using hl) (fun q hq => hp q (by simp [hq])) (by simpa using hs) (fun d => ?_) (fun i c v h1 h2 => hx (i + 1) c v h1 h2)
    have hpN : p < N := hp p (by simp)
    rw [look_cons]
    by_cases e : d = p
    · subst e
      rw [if_pos rfl]
      have : (T0.setIfInBounds d v).getD d undef = v := by
        rw [Array.getD_eq_getD_getElem?, Array.getElem?_setIfInBounds]
        have : d < T0.size := by rw [hs]; exact hpN
        simp [this]
      rw [this]
      exact hx 0 x v rfl rfl
    · rw [if_neg e]
      have : (T0.setIfInBounds p v).getD d undef = T0.getD d undef := by
        rw [Array.getD_eq_getD_getElem?, Array.getD_eq_getD_getElem?, Array.getElem?_setIfInBounds, if_neg (fun h => e h.symm)]
      rw [this]; exact hr d

def allLt (N : Nat) : List Tmp → Bool
  | [] => true
  | p :: r => Nat.blt p N && allLt N r
theorem allLt_mem {N : Nat} : ∀ {l : List Tmp}, allLt N l = true → ∀ p ∈ l, p < N
  | [], _, p, h => by cases h
  | q :: r, h, p, hp => by
    simp only [allLt, Bool.and_eq_true] at h
    rcases List.mem_cons.1 hp with rfl | hp
    · exact Nat.le_of_ble_eq_true h.1
    · exact allLt_mem h.2 p hp

/-- A call of yield, by what the loop's body does. -/
theorem AYield.intro {l : Nat} {args : List AV} {h : Heap} {K : AV → Heap → Prop} {pend : Option Code} {fn : FuncId} {N : Nat} {tm : List (Nat × AV)} {ps : Array Tmp} {as bd : Code} (hget : h.get l = .loop .ready pend fn N tm ps as bd)
    (hl : ps.size = args.length) (hN : allLt N ps.toList = true) (hw : ∀ z, AW P as N ⟨putP ps.toList args tm, h, some l, z⟩ (QAssign P bd N l K)) : AYield P l args h K := by
  refine ⟨fun μ w vs rk k hh hvl hr hk => ?_⟩
  obtain ⟨b, r, hb, hv, hc, h1, h2, h3, h4, h5, h6, h7, h8, _, _⟩ := loop_write hh hget .ready pend
  have := hk b hb hv
  subst this
  have hyield := run_yield (P := P) (args := vs.toArray) hc (by rw [h6]; simp; omega)
  refine ⟨_, _, _, _, hyield, ?_⟩
  have hFk : (FW rk).inRound b.blk = FW (some b.blk) := by cases rk <;> rfl
  refine roundIn_of_wpIn (FW_fn rk _) ?_
  rw [hFk, h7, h8]
  have hfold : ((r.params.zip vs.toArray).foldl (fun tmps (t, a) => tmps.setIfInBounds t a) r.tmps) = (ps.toList.zip vs).foldl (fun (t : Array Value) (p : Tmp × Value) => t.setIfInBounds p.1 p.2) r.tmps := by
    rw [h6, ← Array.foldl_toList, Array.toList_zip]
  rw [hfold]
  obtain ⟨hsz, hslots⟩ := putP_rel (N := N) ps.toList args vs tm r.tmps hvl (allLt_mem hN) h4 h5 hr
  have hs : SRel N ⟨putP ps.toList args tm, h, some l, w.heap.size⟩ μ { tmps := (ps.toList.zip vs).foldl (fun (t : Array Value) (p : Tmp × Value) => t.setIfInBounds p.1 p.2) r.tmps, defers := [] } w :=
    ⟨hslots, hsz, hh, ⟨fun d hd => (by cases hd), List.nodup_nil, Nat.le_refl _⟩⟩
  have hln : l < h.nx := by
    rcases Nat.lt_or_ge l h.nx with hlt | hge
    · exact hlt
    · rw [hh.hi l hge] at hb; cases hb
  have hrd : RndRel h.nx μ (some l) (some b.blk) := ⟨hln, fun bd' hb' _ => by rw [hb] at hb'; cases hb'; rfl⟩
  refine wpIn_mono ((hw w.heap.size).go μ _ w (some b.blk) hs hrd) fun e a1 w1 ⟨s1, μ1, q1, q2, q3, q4, q5⟩ => ?_
  cases e with
  | normal =>
    obtain ⟨tm1, hp1, rnd1, df1⟩ := s1
    simp only [QAssign] at q1
    split at q1
    · rename_i pend' fn' N' tm' ps' as' bd' hget1
      obtain ⟨b1, r1, e1, e2, e3, e4, e5, e6, e7, e8, e9, e10, e11, e12, e13⟩ := loop_write q2.hp hget1 .busy pend'
      have hbb : b1.blk = b.blk := by
        obtain ⟨b0, hb0, rfl | ⟨hlt, _, _⟩⟩ := q3.old l b1 hln e1
        · rw [hb] at hb0; cases hb0; rfl
        · omega
      rw [hbb] at e3 e12 e13
      refine ⟨_, run_beginRound e3 e4, ?_⟩
      have hrec : ({ r1 with state := LoopState.busy } : Loop) = { r1 with state := .busy, pending := pend' } := by rw [← e5]
      rw [hrec]
      have hs2 : SRel N ⟨tm1, hp1.set l (.loop .busy pend' fn' N' tm' ps' as' bd'), rnd1, df1⟩ μ1 a1 (w1.putObj b.blk (.loop { r1 with state := .busy, pending := pend' })) := q2.go e13 (Nat.le_refl _) e12
      have ht : rnd1 = some l := congrArg Prod.fst q5
      subst ht
      refine wpIn_mono (q1.go μ1 a1 _ (some b.blk) hs2 (hrd.ext q3 q4 |>.ext e13 (Nat.le_refl _))) fun e a2 w2 ⟨s2, μ2, k1, k2, k3, k4, k5⟩ => ?_
      have fin : ∀ (jump : Option Code), rEnd l K jump s2 → ∃ v w', (Instr.endRound b.blk jump).run P w2 = .ok v w' ∧ Aimed h μ w K (.returned v) w' := by
        intro jump hj
        unfold rEnd at hj
        split at hj
        · rename_i st2 pend2 fn2 N2 tm2 ps2 as2 bd2 hget2
          have pos : ∀ b2, μ2 l = some b2 → b2.blk = b.blk := fun b2 d1 => by
            obtain ⟨b0, hb0, rfl | ⟨hlt, h0, _⟩⟩ := k3.old l b2 (Nat.lt_of_lt_of_le hln q4) d1
            · rw [e1] at hb0; cases hb0; exact hbb
            · rw [e1] at hb0; cases hb0; omega
          have hx0 : Ext h.nx μ w μ2 w2 := (q3.trans q4 e13).trans q4 k3
          split at hj
          · obtain ⟨b2, r2, d1, d2, d3, d4, d5, d6, d7, d8, d9, d10, d11, d12, d13⟩ := loop_write k2.hp hget2 .ready none
            rw [pos b2 d1] at d3 d12 d13
            exact ⟨_, _, run_endRound none d3, .tt, _, μ2, _, rfl, hj, d12, hx0.trans (Nat.le_trans q4 k4) d13, Nat.le_trans q4 k4, .tt⟩
          · rename_i c
            obtain ⟨b2, r2, d1, d2, d3, d4, d5, d6, d7, d8, d9, d10, d11, d12, d13⟩ := loop_write k2.hp hget2 .done (some c)
            rw [pos b2 d1] at d3 d12 d13
            exact ⟨_, _, run_endRound (some c) d3, .ff, _, μ2, _, rfl, hj, d12, hx0.trans (Nat.le_trans q4 k4) d13, Nat.le_trans q4 k4, .ff⟩
        · cases hj
      cases e with
      | normal => exact fin none k1
      | ret => exact fin (some .ret) k1
      | exit i => exact fin (some (.exit i)) k1
      | goto t => exact fin (some (.goto t)) k1
      | _ => cases k1
    · cases q1
  | _ => cases q1

theorem HRel.alloc {h : Heap} {μ : Mu} {w : World} (hh : HRel h μ w) (O : Obj) : HRel h μ (w.alloc O) ∧ Ext h.nx μ w μ (w.alloc O) := by
  have hext : Ext h.nx μ w μ (w.alloc O) := ⟨rfl, rfl, rfl, by simp, rfl, fun k hk _ => RowKit.Below.heap_alloc w O k hk, fun i bd' _ hb => ⟨bd', hb, .inl rfl⟩, fun i bd' hi hb => by rw [hh.hi i hi] at hb; cases hb⟩
  refine ⟨⟨hh.outs, fun k hk => hh.fresh k (by simp at hk; omega), fun i => ?_, hh.hi, hh.inj⟩, hext⟩
  exact (hh.obj i).ext hext (Nat.le_refl _) (fun bd hb => RowKit.Below.heap_alloc w O _ (hh.lt hb)) (fun bd hb => hh.lt hb)

/-- Behind the function that was ranged over. -/
def rfNext (P : Program) (N : Nat) (l : Nat) (Q : Exit → St → Prop) : St → Heap → Prop
  | ⟨tm, _, rnd, df⟩, h => match h.get l with
    | .loop .busy _ _ _ _ _ _ _ => False
    | .loop _ pend fn N' tm' ps as bd => match pend with
      | none => Q .normal ⟨tm, h.set l (.loop .exhausted none fn N' tm' ps as bd), rnd, df⟩
      | some c => AW P c N ⟨tm, h.set l (.loop .exhausted (some c) fn N' tm' ps as bd), rnd, df⟩ Q
    | _ => False

/-- A range over a function, outside of every other. -/
theorem AW.rangeFunc {g : Operand} {ps : Array Tmp} {assign body : Code} {N : Nat} {s : St} {Q : Exit → St → Prop} (hr : s.rnd = none)
    (h : ∀ fn, match ev s g with
      | .fn f caps => PlainFn P f ∧ ACall P f (.yld s.hp.nx :: caps) (s.hp.push (.loop .ready none fn N s.tm ps assign body)) (fun _ h3 => rfNext P N s.hp.nx Q s h3)
      | _ => False) : AW P (.rangeFunc g ps assign body) N s Q := by
  refine ⟨fun μ a w rk hs hrd => ?_⟩
  have hrk : rk = none := by
    have : s.tag.1 = none := hr
    rw [this] at hrd
    cases rk with
    | none => rfl
    | some k => cases hrd
  subst hrk
  refine wpIn_rangeFunc (F := Fence.wide) fun fn _ => ?_
  have h := h fn
  have hg := ev_rel hs g
  split at h
  · rename_i f caps he
    rw [he] at hg
    obtain ⟨u, hu⟩ : ∃ u, a.eval g = u := ⟨_, rfl⟩
    rw [hu] at hg
    cases hg with
    | fn _ _ cvs hl hcr =>
    obtain ⟨hpl, hcall⟩ := h
    obtain ⟨ha1, ha2⟩ := hs.hp.alloc (.deferred (some []))
    obtain ⟨R, hR⟩ : ∃ R : Loop, R = { state := .ready, pending := none, fn, tmps := a.tmps, params := ps, assign, body, defers := w.heap.size } := ⟨_, rfl⟩
    obtain ⟨hb1, hb2⟩ := ha1.push (w' := (w.alloc (.deferred (some []))).alloc (.loop R)) (.loop .ready none fn N s.tm ps assign body) (.loop R) ⟨w.heap.size + 1, 0, 0, 0⟩ (by simp) rfl (fun hext => by
      refine ⟨_, rfl, rfl, R, ?_, by rw [hR], by rw [hR], by rw [hR], by rw [hR]; exact hs.size, fun d => ?_, by rw [hR], by rw [hR], by rw [hR]⟩
      · have := heap_alloc_new (w.alloc (.deferred (some []))) (.loop R)
        simpa using this
      · have hRt : R.tmps = a.tmps := by rw [hR]
        rw [hRt]
        exact ((hs.tm d).ext ha2 (Nat.le_refl _)).ext hext (Nat.le_succ _))
    have he2 : Ext s.hp.nx μ w _ _ := ha2.trans (Nat.le_refl _) hb2
    have hargs : ∀ (i : Nat) (c : AV) (v : Value), (AV.yld s.hp.nx :: caps)[i]? = some c → (Value.func (.yield (w.heap.size + 1)) #[] #[] :: cvs)[i]? = some v →
        ARel (s.hp.push (.loop .ready none fn N s.tm ps assign body)).nx (muSet μ s.hp.nx (some ⟨w.heap.size + 1, 0, 0, 0⟩)) ((w.alloc (.deferred (some []))).alloc (.loop R)) c v := by
      intro i c v h1 h2
      cases i with
      | zero =>
        simp at h1 h2; subst h1 h2
        exact .yld _ _ (Nat.lt_succ_self _) (fun bd hb _ => by rw [muSet_at, if_pos rfl] at hb; cases hb; rfl)
      | succ i => exact (hcr i c v (by simpa using h1) (by simpa using h2)).ext he2 (Nat.le_succ _)
    have hgo := hcall.go _ _ (Value.func (.yield (w.heap.size + 1)) #[] #[] :: cvs) hb1 (by simp [hl]) hargs
    have hCalls : Calls P f (Value.func (.yield (w.heap.size + 1)) #[] #[] :: cvs).toArray ((w.alloc (.deferred (some []))).alloc (.loop R))
        (Aimed (s.hp.push (.loop .ready none fn N s.tm ps assign body)) (muSet μ s.hp.nx (some ⟨w.heap.size + 1, 0, 0, 0⟩)) ((w.alloc (.deferred (some []))).alloc (.loop R)) fun _ h3 => rfNext P N s.hp.nx Q s h3) := by
      rcases hgo with ⟨_, hc⟩ | ⟨v, w', hc, _⟩
      · exact hc
      · obtain ⟨fn2, hfn, hnm, hbd⟩ := hpl
        unfold callFunc at hc
        rw [Sem.run_bind, show ∀ w, (program).run P w = .ok P w from fun _ => rfl] at hc
        simp only [Result.andThen_ok, hfn, hnm, hbd, Bool.false_eq_true, if_false] at hc
        cases hc
    refine ⟨w.heap.size + 1, [{ target := .collected w.heap.size, args := #[] }], (w.alloc (.deferred (some []))).alloc (.loop R), { target := .fn (.func f) cvs.toArray, args := #[.func (.yield (w.heap.size + 1)) #[] #[]] },
      (w.alloc (.deferred (some []))).alloc (.loop R), f, (Value.func (.yield (w.heap.size + 1)) #[] #[] :: cvs).toArray, (w.alloc (.deferred (some []))).alloc (.loop R), ?_, ?_, fun _ _ => trivial, ?_, fun h => (by cases h), ?_⟩
    · rw [hR]; exact run_enterLoop_outer fn a.tmps ps assign body
    · simp only [resolve, hu, Deferred.ofValue, Sem.run_pure]
      congr 2
      simp [Act.eval]
    · obtain ⟨fn2, hfn, hnm, hbd⟩ := hpl
      simp only [invoke]
      unfold callFunc
      rw [Sem.run_bind, show ∀ w, (program).run P w = .ok P w from fun _ => rfl]
      simp only [Result.andThen_ok, hfn, hnm, hbd, Bool.false_eq_true, if_false, Sem.run_pure]
      congr 2
      apply Array.ext'; simp
    · refine callsIn_FW (rk := none) (hCalls.mono fun e w3 ⟨r, h3, μ3, v, hev, hK, g1, g2, g3, g4⟩ => ?_)
      subst hev
      have hpush : (s.hp.push (.loop .ready none fn N s.tm ps assign body)).nx = s.hp.nx + 1 := rfl
      have he3 : Ext s.hp.nx μ w μ3 w3 := he2.trans (Nat.le_succ _) g2
      have hn3 : s.hp.nx ≤ h3.nx := Nat.le_trans (Nat.le_succ _) g3
      obtain ⟨tm, hp, rnd, df⟩ := s
      have hD : ∀ {μ' w'}, Ext hp.nx μ (w.alloc (.deferred (some []))) μ' w' → ∃ B, ({ target := .collected w.heap.size, args := #[] } : Deferred) = { target := .collected B, args := #[] } ∧ df ≤ B ∧ okOf μ' B ∧ w'.heap[B]? = some (.deferred (some [])) := by
        intro μ' w' hE
        have hnew : (w.alloc (.deferred (some []))).heap[w.heap.size]? = some (.deferred (some [])) := heap_alloc_new w _
        have hok : okOf μ w.heap.size := ⟨hs.hp.fresh _ (Nat.le_refl _), fun i bd hi he => by have := hs.hp.lt hi; omega⟩
        have hlt : w.heap.size < (w.alloc (.deferred (some []))).heap.size := by simp
        exact ⟨w.heap.size, rfl, hs.df.le, hE.keeps.oks _ hlt hok, by rw [hE.keep _ hlt hok.2]; exact hnew⟩
      have st4 : ∀ {h4 : Heap} {μ4 : Mu} {w4 : World}, HRel h4 μ4 w4 → Ext h3.nx μ3 w3 μ4 w4 → h3.nx ≤ h4.nx → SRel N ⟨tm, h4, rnd, df⟩ μ4 { a with defers := [{ target := .collected w.heap.size, args := #[] }] ++ a.defers } w4 := by
        intro h4 μ4 w4 k1 k2 k3
        have hE : Ext hp.nx μ w μ4 w4 := he3.trans hn3 k2
        refine ⟨fun d => (hs.tm d).ext hE (Nat.le_trans hn3 k3), hs.size, k1, ⟨fun d hd => ?_, ?_, (hs.df.ext hE).le⟩⟩
        · rcases List.mem_append.1 hd with hd | hd
          · rw [List.mem_singleton.1 hd]
            exact hD ((hb2.trans (Nat.le_succ _) g2).trans hn3 k2)
          · exact (hs.df.ext hE).each d hd
        · simp only [List.singleton_append, List.nodup_cons]
          refine ⟨fun hm => ?_, hs.df.nodup⟩
          obtain ⟨B, hB1, _, _, hB2⟩ := hs.df.each _ hm
          injection hB1 with hB1 _
          injection hB1 with hB1
          have := (Array.getElem?_eq_some_iff.1 hB2).1
          omega
      simp only [rfNext] at hK
      have run : ∀ {st : LoopState} {pend : Option Code} {fn' : FuncId} {N' : Nat} {tm' : List (Nat × AV)} {ps' : Array Tmp} {as bd : Code}, h3.get hp.nx = .loop st pend fn' N' tm' ps' as bd → st ≠ .busy →
          ∃ w4, (Instr.endLoop (w.heap.size + 1)).run P w3 = .ok pend w4 ∧ HRel (h3.set hp.nx (.loop .exhausted pend fn' N' tm' ps' as bd)) μ3 w4 ∧ Ext h3.nx μ3 w3 μ3 w4 := by
        intro st pend fn' N' tm' ps' as bd hget hst
        obtain ⟨b, r4, d1, d2, d3, d4, d5, d6, d7, d8, d9, d10, d11, d12, d13⟩ := loop_write g1 hget .exhausted pend
        have hbb : b.blk = w.heap.size + 1 := by
          obtain ⟨b0, hb0, rfl | ⟨hlt, h0, _⟩⟩ := g2.old hp.nx b (Nat.lt_succ_self _) d1
          · rw [muSet_at, if_pos rfl] at hb0; cases hb0; rfl
          · rw [muSet_at, if_pos rfl] at hb0; cases hb0; simp at h0
        rw [hbb] at d3 d12 d13
        have hend := run_endLoop (P := P) d3 (by rw [d4]; exact hst)
        rw [d5] at hend
        exact ⟨_, hend, d12, d13⟩
      have fin : ∀ {st : LoopState} {pend : Option Code} {fn' : FuncId} {N' : Nat} {tm' : List (Nat × AV)} {ps' : Array Tmp} {as bd : Code}, h3.get hp.nx = .loop st pend fn' N' tm' ps' as bd → st ≠ .busy →
          (match pend with
            | none => Q .normal ⟨tm, h3.set hp.nx (.loop .exhausted none fn' N' tm' ps' as bd), rnd, df⟩
            | some c => AW P c N ⟨tm, h3.set hp.nx (.loop .exhausted (some c) fn' N' tm' ps' as bd), rnd, df⟩ Q) →
          ∃ jump w4, (Instr.endLoop (w.heap.size + 1)).run P w3 = .ok jump w4 ∧ (match jump with
            | none => APost hp.nx μ w N (rnd, df) Q .normal { a with defers := [{ target := .collected w.heap.size, args := #[] }] ++ a.defers } w4
            | some c => c.wpIn Fence.wide 0 P (APost hp.nx μ w N (rnd, df) Q) { a with defers := [{ target := .collected w.heap.size, args := #[] }] ++ a.defers } w4) := by
        intro st pend fn' N' tm' ps' as bd hget hst hq
        obtain ⟨w4, k1, k2, k3⟩ := run hget hst
        refine ⟨pend, w4, k1, ?_⟩
        have hS := st4 k2 k3 (Nat.le_refl _)
        cases pend with
        | none => exact ⟨_, μ3, hq, hS, he3.trans hn3 k3, hn3, rfl⟩
        | some c =>
          have hr' : rnd = none := hr
          exact wpIn_mono (hq.go μ3 _ w4 none hS (by simp only [St.tag, hr']; trivial)) fun e a w hp => APost.trans (he3.trans hn3 k3) hn3 hp
      split at hK
      · cases hK
      · rename_i st pend fn' N' tm' ps' as bd hnb hget
        exact fin hget (fun e => by subst e; simp_all) hK
      · cases hK
  · cases h
theorem AYield.id {l : Nat} {args : List AV} {h : Heap} {K : AV → Heap → Prop} (hk : AYield P l args h K) : AYield P l args h K := hk
theorem ACall.id {f : FuncId} {args : List AV} {h : Heap} {K : AV → Heap → Prop} (hk : ACall P f args h K) : ACall P f args h K := hk
/-- Arguments that are worth as much. -/
def ALe : List AV → List AV → Prop
  | [], [] => True
  | x :: r, y :: q => AV.le x y ∧ ALe r q
  | _, _ => False
theorem ALe.len : ∀ {a b : List AV}, ALe a b → a.length = b.length
  | [], [], _ => rfl
  | _ :: _, _ :: _, h => congrArg (· + 1) (ALe.len h.2)
  | [], _ :: _, h => h.elim
  | _ :: _, [], h => h.elim
theorem ALe.get : ∀ {a b : List AV}, ALe a b → ∀ (i : Nat) (x y : AV), a[i]? = some x → b[i]? = some y → AV.le x y
  | [], [], _, i, x, y, h, _ => by simp at h
  | _ :: _, _ :: _, hl, i, x, y, h1, h2 => by
    cases i with
    | zero => simp at h1 h2; subst h1 h2; exact hl.1
    | succ i => exact ALe.get hl.2 i x y (by simpa using h1) (by simpa using h2)
  | [], _ :: _, h, _, _, _, _, _ => h.elim
  | _ :: _, [], h, _, _, _, _, _ => h.elim
theorem PCall.le {f : FuncId} {args args' : List AV} {R : AV → Prop} (h : PCall P f args R) (hl : ALe args' args) : PCall P f args' R :=
  h.args hl.len fun i c c' h1 h2 n μ w v hv => hl.get i c' c h2 h1 n μ w v hv
end
end Go.Pm
end
section
/- Data worth as much as other data: literals, nil slices, parts. -/
namespace Go.Pm
def DLe (x y : D) : Prop := ∀ ok w v, DRel ok w x v → DRel ok w y v
theorem DLe.refl (x : D) : DLe x x := fun _ _ _ h => h
theorem DLe.of {x y : D} (h : x = y) : DLe x y := by subst h; exact DLe.refl x
theorem DLe.trans {x y z : D} (h : DLe x y) (k : DLe y z) : DLe x z := fun ok w v g => k ok w v (h ok w v g)
theorem DLe.av {x y : D} (h : DLe x y) : AV.le (.d x) (.d y) := by
  intro m μ w v g
  cases g with
  | d _ _ g => exact .d _ _ (h _ _ _ g)
def CsLe : List D → List D → Prop
  | [], [] => True
  | x :: r, y :: q => DLe x y ∧ x.one = y.one ∧ CsLe r q
  | _, _ => False
theorem CsLe.len : ∀ {a b : List D}, CsLe a b → a.length = b.length
  | [], [], _ => rfl
  | _ :: _, _ :: _, h => congrArg (· + 1) (CsLe.len h.2.2)
  | [], _ :: _, h => h.elim
  | _ :: _, [], h => h.elim
theorem CsLe.get : ∀ {a b : List D}, CsLe a b → ∀ (i : Nat) (y : D), b[i]? = some y → ∃ x, a[i]? = some x ∧ DLe x y ∧ x.one = y.one
  | [], [], _, i, y, h => by simp at h
  | x :: _, _ :: _, hl, i, y, h1 => by
    cases i with
    | zero => simp at h1; subst h1; exact ⟨x, rfl, hl.1, hl.2.1⟩
    | succ i => simpa using CsLe.get hl.2.2 i y (by simpa using h1)
  | [], _ :: _, h, _, _, _ => h.elim
  | _ :: _, [], h, _, _, _ => h.elim
theorem CsLe.refl : ∀ (a : List D), CsLe a a
  | [] => trivial
  | _ :: r => ⟨DLe.refl _, rfl, CsLe.refl r⟩
theorem DLe.agg {a b : List D} (h : CsLe a b) : DLe (.agg a) (.agg b) := by
  intro ok w v g
  cases g with
  | agg _ vs hl ho hc =>
    refine .agg _ vs (hl.trans h.len) (fun i c hi => ?_) fun i c v hi hv => ?_
    · obtain ⟨x, h1, _, h3⟩ := h.get i c hi
      rw [← h3]; exact ho i x h1
    · obtain ⟨x, h1, h2, _⟩ := h.get i c hi
      exact h2 _ _ _ (hc i x v h1 hv)
def LsLe : List D → (Nat → D) → Nat → Prop
  | [], _, _ => True
  | x :: r, f, k => CsLe (D.cells x) (D.cells (f k)) ∧ LsLe r f (k + 1)
theorem LsLe.get : ∀ {l : List D} {f : Nat → D} {k : Nat}, LsLe l f k → ∀ (i : Nat) (x : D), l[i]? = some x → CsLe (D.cells x) (D.cells (f (k + i)))
  | [], _, _, _, i, x, h => by simp at h
  | y :: r, f, k, hl, i, x, h => by
    cases i with
    | zero => simp at h; subst h; exact hl.1
    | succ i =>
      have := LsLe.get hl.2 i x (by simpa using h)
      rwa [show k + 1 + i = k + (i + 1) by omega] at this
theorem DLe.list {sz : Nat} {l : List D} {n : Nat} {f : Nat → D} (hn : l.length = n) (hf : LsLe l f 0) : DLe (.list sz l) (.tab sz n f) := by
  have hg : ∀ (i : Nat) (y : D), (tabl n f)[i]? = some y → ∃ x, l[i]? = some x ∧ CsLe (D.cells x) (D.cells y) := by
    intro i y hy
    have hi : i < n := by
      by_cases hi : i < n
      · exact hi
      · rw [List.getElem?_eq_none (by rw [tabl_length]; omega)] at hy; cases hy
    rw [tabl_get _ _ _ hi] at hy
    obtain rfl := Option.some.inj hy
    have hi' : i < l.length := by omega
    refine ⟨l[i], List.getElem?_eq_getElem hi', ?_⟩
    have := hf.get i l[i] (List.getElem?_eq_getElem hi')
    rwa [Nat.zero_add] at this
  intro ok w v h
  refine .tab _ _ _ _ ?_
  cases h with
  | empty _ b c hc =>
    obtain rfl : 0 = n := hn
    exact .empty sz b c hc
  | list _ _ a c vs hl hc hok hsz hone hcell h =>
    have e : l.length = (tabl n f).length := by rw [tabl_length, hn]
    rw [e] at hl ⊢
    refine .list sz _ a c vs hl hc (fun i y j u h1 h2 => ?_) (fun i y h1 => ?_) (fun i y j u h1 h2 => ?_) (fun i y j u h1 h2 => ?_) fun i y j u h1 h2 => ?_
    all_goals obtain ⟨x, g1, g2⟩ := hg i y h1
    · obtain ⟨x', k1, _⟩ := g2.get j u h2
      exact hok i x j x' g1 k1
    · rw [← g2.len]; exact hsz i x g1
    · obtain ⟨x', k1, _, k3⟩ := g2.get j u h2
      rw [← k3]; exact hone i x j x' g1 k1
    · obtain ⟨x', k1, _⟩ := g2.get j u h2
      exact hcell i x j x' g1 k1
    · obtain ⟨x', k1, k2, _⟩ := g2.get j u h2
      exact k2 _ _ _ (h i x j x' g1 k1)
theorem DLe.nils {sz : Nat} {f : Nat → D} : DLe .nils (.tab sz 0 f) := by
  intro ok w v h
  cases h
  exact .tab _ _ _ _ (.empty sz none 0 (by simp))
theorem DLe.tab {sz n : Nat} {f g : Nat → D} (h : ∀ i, i < n → f i = g i) : DLe (.tab sz n f) (.tab sz n g) := by
  have : tabl n f = tabl n g := List.map_congr_left fun j hj => h j (List.mem_range.1 hj)
  intro ok w v k
  cases k with
  | tab _ _ _ _ k => exact .tab _ _ _ _ (this ▸ k)
end Go.Pm
end
