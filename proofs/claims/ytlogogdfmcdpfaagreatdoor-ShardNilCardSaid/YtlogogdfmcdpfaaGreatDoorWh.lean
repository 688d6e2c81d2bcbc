/-
The evaluator suffices: what acts, second part.
-/
import Derived.Test.YtlogogdfmcdpfaaGreatDoorWg
set_option linter.all false
namespace Go.Am
open Go

section ops
variable {P : Program} {T : Nat → Option TI} {R : RelB} {N : Nat} {F : BT Value} {t : Array Value} {o : Oper} {W0 : AHeap} {n : Nat} {H : BT XO} {A : AHeap} {d : Option Tmp} {ty : TypeId} {p : String} {af : Array Edge} {g : Option (Nat × Bool)} {l : List Eff}

theorem VR.slice_shape {sa : Option Addr} {sl sc : Nat} {u : Value} (h : VR R (.slice sa sl sc) u) : ∃ ua uc, u = .slice ua sl uc := by
  cases h with
  | flat _ _ => exact ⟨_, _, rfl⟩
  | slice _ _ => exact ⟨_, _, rfl⟩
  | sliceU _ _ => exact ⟨_, _, rfl⟩
  | sliceE _ => exact ⟨_, _, rfl⟩

theorem big_of {l m by' : Nat} (h : Nat.ble ((2 * (l + m) + 192) * by') 281474976710656 = true) (hp : Nat.ble 1 by' = true) : l + m ≤ 2 ^ 48 ∧ m * by' ≤ 2 ^ 48 ∧ ∀ c, c < l + m → Builtin.nextslicecap (l + m) c * by' ≤ 2 ^ 48 := by
  have h1 := ble_le h
  have h2 := ble_le hp
  refine ⟨?_, ?_, fun c hc => ?_⟩
  · have : (2 * (l + m) + 192) * 1 ≤ (2 * (l + m) + 192) * by' := Nat.mul_le_mul_left _ h2
    omega
  · have : m * by' ≤ (2 * (l + m) + 192) * by' := Nat.mul_le_mul_right _ (by omega)
    omega
  · have := Nat.mul_le_mul_right by' (nextslicecap_le hc)
    omega

theorem appArm_some {te : TI} {s : Value} {src : Option (Nat × List Value)} (h : appArm te H n s src = some l) :
    Nat.ble 1 te.bytes = true ∧ te.zero.all flatB = true ∧ te.zero.length = te.size ∧ ∃ m news sa sl sc ef, src = some (m, news) ∧ s = .slice sa sl sc ∧ Nat.ble ((2 * (sl + m) + 192) * te.bytes) 281474976710656 = true ∧ appX te H n s m news = some ef ∧ l = [ef] := by
  unfold appArm at h
  cases hg : (Nat.ble 1 te.bytes && te.zero.all flatB && Nat.beq te.zero.length te.size) with
  | false => rw [hg] at h; cases h
  | true =>
    rw [hg] at h
    simp only [cond_true] at h
    simp only [Bool.and_eq_true] at hg
    refine ⟨hg.1.1, hg.1.2, Nat.eq_of_beq_eq_true hg.2, ?_⟩
    split at h
    · rename_i m news
      split at h
      · rename_i sa sl sc
        cases hb : Nat.ble ((2 * (sl + m) + 192) * te.bytes) 281474976710656 with
        | false => rw [hb] at h; cases h
        | true =>
          rw [hb] at h
          simp only [cond_true] at h
          split at h
          · rename_i ef hef
            simp only [Option.some.injEq] at h
            exact ⟨m, news, sa, sl, sc, ef, rfl, rfl, hb, hef, h.symm⟩
          · cases h
      · cases h
    · cases h

set_option maxHeartbeats 2000000 in
theorem ef_append (hT : TabOk P T) (hF : FR R N F t) (hx : HX W0 R n H A) {x y : Operand} {sT xT : TypeId}
    (h : efOp T ⟨d, .call { callee := .builtin .append, args := #[x, y], argTypes := #[sT, xT] }, ty, p, af, g⟩ F H n = some l) :
    opA P ⟨d, .call { callee := .builtin .append, args := #[x, y], argTypes := #[sT, xT] }, ty, p, af, g⟩ t A (EfPost W0 R l) := by
  simp only [efOp] at h
  split at h
  · rename_i s hs
    obtain ⟨u, h1, h2⟩ := opvX_ok hF hs
    split at h
    · rename_i vy hy
      obtain ⟨uy, h3, h4⟩ := opvX_ok hF hy
      split at h
      · rename_i ti tx hti htx
        have key : ∀ (e : TypeId) (te : TI), ti.desc = .slice e → isSrcD tx.desc → T e = some te → appArm te H n s (srcX H te.size vy) = some l →
            opA P ⟨d, .call { callee := .builtin .append, args := #[x, y], argTypes := #[sT, xT] }, ty, p, af, g⟩ t A (EfPost W0 R l) := by
          intro e te hd hsrcD hte h
          obtain ⟨q1, q2, q3, m, news, sa, sl, sc, ef, hsrc, rfl, hb, hef, rfl⟩ := appArm_some h
          obtain ⟨news', B, k1, k2, k3, k4⟩ := srcX_ok hx hsrc h4
          obtain ⟨inf, z, i1, i2, i3, i4⟩ := (hT.spec hte).info
          obtain ⟨inf', i5, i6⟩ := (hT.spec hte).bytes
          rw [i1] at i5; obtain rfl := Option.some.inj i5
          obtain ⟨b1, b2, b3⟩ := big_of hb q1
          have hu := (hT.spec hti).und
          rw [hd] at hu
          obtain ⟨ua, uc, rfl⟩ := h2.slice_shape
          refine ef_appX hx (ap := Builtin.firstCells inf.size m uy) (z := z) (e := e) i2 i4 q2 q3 rfl h1 h2 h3 k1 k2 k3 (fun Hs A' hat hA' => ?_) (fun Hs A' hat hA' base cap w hw => ?_) hef
          · rw [i2]; exact semR_firstCells hA' (k4 Hs hat)
          · rw [← run_appCoreG]
            refine append_core hu (hT.spec htx).und hsrcD i1 i3 (semR_lenOf (P := P) (A := A') (k4 Hs hat) w hw) b1 (fun hlt => ?_)
            rw [i6]; exact b3 _ hlt
        split at h
        · rename_i e e2 hd1 hd2
          split at h
          · rename_i te hte; exact key e te hd1 (.inr ⟨_, hd2⟩) hte h
          · cases h
        · rename_i e hd1 hd2
          split at h
          · rename_i te hte; exact key e te hd1 (.inl hd2) hte h
          · cases h
        · rename_i e k hd1 hd2
          split at h
          · rename_i te hte
            obtain ⟨q1, q2, q3, m, news, sa, sl, sc, ef, hsrc, rfl, hb, hef, rfl⟩ := appArm_some h
            unfold zsrc at hsrc
            split at hsrc
            · rename_i m0
              simp only [Option.some.injEq, Prod.mk.injEq] at hsrc
              obtain ⟨rfl, rfl⟩ := hsrc
              obtain rfl := h4.int
              obtain ⟨inf, z, i1, i2, i3, i4⟩ := (hT.spec hte).info
              obtain ⟨inf', i5, i6⟩ := (hT.spec hte).bytes
              rw [i1] at i5; obtain rfl := Option.some.inj i5
              obtain ⟨b1, b2, b3⟩ := big_of hb q1
              have hu := (hT.spec hti).und
              rw [hd1] at hu
              have hxu := (hT.spec htx).und
              rw [hd2] at hxu
              obtain ⟨ua, uc, rfl⟩ := h2.slice_shape
              refine ef_appX hx (ap := if m0 * inf.size = 0 then pure #[] else pure (Builtin.zeroCells z.cells m0)) (z := z) (e := e) (B := []) i2 i4 q2 q3 rfl h1 h2 h3 ((VL.refl_flat q2).rep m0) (by rw [rep_length, q3]) (fun b hb => by cases hb) (fun Hs A' hat hA' => ?_) (fun Hs A' hat hA' base cap w hw => ?_) hef
              · intro w hw
                split
                · rename_i h0
                  have : rep te.zero m0 = [] := by
                    apply List.eq_nil_of_length_eq_zero
                    rw [rep_length, q3, ← i2]; exact h0
                  rw [this]; rfl
                · show Result.ok _ w = _
                  congr 1
                  apply Array.ext'
                  rw [zeroCells_rep te.zero z i4 m0]
              · exact append_coreZ hu hxu i1 i3 b1 (by rw [i6]; exact b2) (by rw [i6]; exact ble_le q1) (fun hlt => by rw [i6]; exact b3 _ hlt)
            · cases hsrc
          · cases h
        · cases h
      · cases h
    · cases h
  · cases h

theorem cutV_rel {v u : Value} {m0 m : Nat} (h : VR R v u) (hm : copyN v = some m0) (hle : m ≤ m0) : VR R (cutV v m) (cutV u m) ∧ copyN u = some m0 := by
  cases v with
  | slice a l c =>
    simp only [copyN, Option.some.injEq] at hm
    subst hm
    cases h with
    | flat _ hf =>
      refine ⟨?_, rfl⟩
      cases a with
      | none => exact .flat _ rfl
      | some _ => simp [flatB] at hf
    | slice h hc => exact ⟨.slice h hc, rfl⟩
    | sliceU h hk => exact ⟨.sliceU h (by omega), rfl⟩
    | sliceE h =>
      obtain rfl : m = 0 := by omega
      exact ⟨.sliceE h, rfl⟩
  | _ => simp [copyN] at hm

theorem OtherP.copy {x y : Operand} {sT xT e : TypeId} {ti te : TI} {b o dl dc sn m : Nat} {sa : Option Addr} {scap : Nat} {news us us' : List Value} {op : Bool} {F : Fr} {Hs H' : Heap} {K : Value → Heap → Prop}
    (hs : TiSpec P sT ti) (hds : ti.desc = .slice e) (he : TiSpec P e te) (hx : opv F x = some (.slice (some ⟨b, o, none⟩) dl dc)) (hy : opv F y = some (.slice sa sn scap)) (hm : m = Nat.min sn dl)
    (hsrc : SrcOk Hs te.size (.slice sa m scap) m news) (hset : SetN us o news us') (h1 : news.all (·.oneCell') = true) (hup : Upd Hs b (.cells us op true) (.cells us' op true) H') (hk : K (.int .i64 (m : Nat)) H') :
    OtherP P ⟨d, .call { callee := .builtin .copy, args := #[x, y], argTypes := #[sT, xT] }, ty, p, af, g⟩ F Hs K := by
  obtain ⟨inf, z, i1, i2, _, _⟩ := he.info
  have hu := hs.und
  rw [hds] at hu
  refine OtherP.of_run (s := do let c ← Builtin.firstCells inf.size m (.slice sa m scap); storeCells ⟨b, o, none⟩ c.toList; pure (.value (.int .i64 (m : Nat)))) (fun A hA t ht w hw => ?_) fun A hA => ?_
  · have hfc : Builtin.firstCells inf.size m (.slice sa sn scap) = Builtin.firstCells inf.size m (.slice sa m scap) := by
      cases sa <;> rfl
    subst hm
    simp only [execOp, resolve]
    simp [opv_eval ht hx, opv_eval ht hy, invoke, builtin, Builtin.copy_, underlying, hu, sizeOf, typeInfo, i1, Builtin.lenOf, hfc, goInt]
    generalize (Builtin.firstCells inf.size (sn.min dl) (.slice sa (sn.min dl) scap)).run P w = r
    cases r with
    | ok c w' =>
      simp only [Result.andThen]
      generalize (storeCells ⟨b, o, none⟩ c.toList).run P w' = r2
      cases r2 <;> rfl
    | halt _ _ => rfl
  · have hfc := semR_firstCells (P := P) hA hsrc
    rw [← i2] at hfc
    obtain ⟨i, ha, rfl⟩ := hup.at
    refine hfc.semA.bind fun c A' _ ⟨hA', hc⟩ => ?_
    subst hA'; subst hc
    have h2 := hset.eq
    refine SemA.of_wp ?_
    rw [wpA_bind]
    refine wpA_storeCells news us 0 A' (hA.at ha) (fun h => by simpa using h2.2 h) h1 ?_
    rw [Nat.add_zero, h2.1]
    obtain ⟨k1, k2⟩ := hA.set ha (.cells us' op true)
    exact ⟨_, k1, k2, hk⟩

set_option maxHeartbeats 2000000 in
theorem ef_copy (hT : TabOk P T) (hF : FR R N F t) (hx : HX W0 R n H A) {x y : Operand} {sT xT : TypeId}
    (h : efOp T ⟨d, .call { callee := .builtin .copy, args := #[x, y], argTypes := #[sT, xT] }, ty, p, af, g⟩ F H n = some l) :
    opA P ⟨d, .call { callee := .builtin .copy, args := #[x, y], argTypes := #[sT, xT] }, ty, p, af, g⟩ t A (EfPost W0 R l) := by
  simp only [efOp] at h
  split at h
  · rename_i s hs
    obtain ⟨u, h1, h2⟩ := opvX_ok hF hs
    split at h
    · rename_i vy hy
      obtain ⟨uy, h3, h4⟩ := opvX_ok hF hy
      split at h
      · rename_i ti hti
        split at h
        · rename_i e hd
          split at h
          · rename_i te hte
            split at h
            · cases h
            · rename_i b o dl dc
              obtain ⟨b', κ, c', g1, rfl, _⟩ := h2.slice_inv
              split at h
              · rename_i m0 hm0
                split at h
                · rename_i m news hsrc
                  split at h
                  · rename_i vs es lo hi op hb
                    split at h
                    · rename_i vs2 hvs2
                      cases hone : news.all (·.oneCell') with
                      | false => rw [hone] at h; cases h
                      | true =>
                        rw [hone] at h
                        simp only [cond_true, Option.some.injEq] at h; subst h
                        obtain ⟨e1, e2⟩ := cutV_rel (m := Nat.min m0 dl) h4 hm0 (Nat.min_le_left _ _)
                        obtain ⟨news', B, k1, k2, k3, k4⟩ := srcX_ok hx hsrc e1
                        cases uy with
                        | slice sa sn scap =>
                          simp only [copyN, Option.some.injEq] at e2
                          subst e2
                          have hmm : m = Nat.min sn dl := by
                            obtain ⟨Hs, _, hat⟩ := hsOf B k3
                            rcases k4 Hs hat with ⟨c, q1, q2, _⟩ | ⟨_, _, _, _, _, _, _, q1, _⟩ | ⟨_, q1, _⟩ | ⟨a1, c1, q1, q2, _⟩
                            · simp only [cutV] at q1; cases q1; rfl
                            · simp only [cutV] at q1; cases q1; rfl
                            · simp only [cutV] at q1; cases q1
                            · simp only [cutV, Value.slice.injEq] at q1; rw [q2, q1.2.1]
                          obtain ⟨us, opr, wr', j1, j2, j3, j4, j5, j6, j7⟩ := hx.cells g1 hb
                          obtain rfl := j2 rfl
                          obtain ⟨r1, r2, r3, r4⟩ := roomX_ok hvs2 j3 j4 j5 j6 j7
                          obtain ⟨Hs, hsl, hat⟩ := hsOf (A := A) (b' :: B) (fun c hc => by
                            rcases List.mem_cons.1 hc with rfl | hc
                            · exact (hx.lt _ _ _ g1).2
                            · exact k3 c hc)
                          obtain ⟨j, hj⟩ := hat b' List.mem_cons_self
                          rw [j1] at hj
                          have hsok := k4 Hs (fun b hb => hat b (List.mem_cons_of_mem _ hb))
                          simp only [cutV] at hsok
                          rw [← hmm] at hsok
                          have hone' := k1.all_one hone
                          have hl := k1.length
                          refine ef_other hsl (Ke := fun u H' => u = .int .i64 (m : Nat) ∧ H' = hset Hs j (.cells (splice us o news') opr true))
                            (OtherP.copy (hT.spec hti) hd (hT.spec hte) h1 h3 hmm hsok (setN_splice (by omega)) hone' (hj.upd _) ⟨rfl, rfl⟩) ?_
                          rintro u A' H' q1 q2 ⟨rfl, rfl⟩
                          exact ef_splice hx g1 hb hsl hj r2 j4 r3 r4 j7 k1 hone' (by omega) q1 q2 (.flat _ rfl)
                        | _ => simp [copyN] at e2
                    · cases h
                  · cases h
                · cases h
              · cases h
            · cases h
          · cases h
        · cases h
      · cases h
    · cases h
  · cases h

end ops
end Go.Am

namespace Go.Am
open Go

section ops
variable {P : Program} {T : Nat → Option TI} {R : RelB} {N : Nat} {F : BT Value} {t : Array Value} {o : Oper} {W0 : AHeap} {n : Nat} {H : BT XO} {A : AHeap} {d : Option Tmp} {ty : TypeId} {p : String} {af : Array Edge} {g : Option (Nat × Bool)} {l : List Eff}

theorem OtherP.clear {x : Operand} {sT e : TypeId} {ti te : TI} {b o m c : Nat} {us us' : List Value} {op : Bool} {F : Fr} {Hs H' : Heap} {K : Value → Heap → Prop}
    (hs : TiSpec P sT ti) (hds : ti.desc = .slice e) (he : TiSpec P e te) (hx : opv F x = some (.slice (some ⟨b, o, none⟩) m c))
    (hset : SetN us o (rep te.zero m) us') (h1 : (rep te.zero m).all (·.oneCell') = true) (hup : Upd Hs b (.cells us op true) (.cells us' op true) H') (hk : K (.tuple #[]) H') :
    OtherP P ⟨d, .call { callee := .builtin .clear, args := #[x], argTypes := #[sT] }, ty, p, af, g⟩ F Hs K := by
  obtain ⟨inf, z, i1, i2, i3, i4⟩ := he.info
  have hu := hs.und
  rw [hds] at hu
  refine OtherP.of_run (s := do storeCells ⟨b, o, none⟩ (rep te.zero m); pure (.value (.tuple #[]))) (fun A hA t ht w hw => ?_) fun A hA => ?_
  · have hz := zeroCells_rep te.zero z i4 m
    simp only [execOp, resolve]
    cases m with
    | zero => simp [opv_eval ht hx, invoke, builtin, Builtin.clear_, underlying, hu, rep, storeCells]
    | succ m =>
      simp only [Builtin.clear_, invoke, builtin]
      simp [opv_eval ht hx, Builtin.clear_, underlying, hu, zeroValue, typeInfo, i1, i3, hz]
      generalize (storeCells ⟨b, o, none⟩ (rep te.zero (m + 1))).run P w = r
      cases r <;> rfl
  · obtain ⟨i, ha, rfl⟩ := hup.at
    have h2 := hset.eq
    refine SemA.of_wp ?_
    rw [wpA_bind]
    refine wpA_storeCells (rep te.zero m) us 0 A (hA.at ha) (fun h => by simpa using h2.2 h) h1 ?_
    rw [Nat.add_zero, h2.1]
    obtain ⟨k1, k2⟩ := hA.set ha (.cells us' op true)
    exact ⟨_, k1, k2, hk⟩

set_option maxHeartbeats 2000000 in
theorem ef_clear (hT : TabOk P T) (hF : FR R N F t) (hx : HX W0 R n H A) {x : Operand} {sT : TypeId}
    (h : efOp T ⟨d, .call { callee := .builtin .clear, args := #[x], argTypes := #[sT] }, ty, p, af, g⟩ F H n = some l) :
    opA P ⟨d, .call { callee := .builtin .clear, args := #[x], argTypes := #[sT] }, ty, p, af, g⟩ t A (EfPost W0 R l) := by
  simp only [efOp] at h
  split at h
  · rename_i b o m c hs
    obtain ⟨u, h1, h2⟩ := opvX_ok hF hs
    obtain ⟨b', κ, c', g1, rfl, _⟩ := h2.slice_inv
    split at h
    · rename_i ti hti
      split at h
      · rename_i e hd
        split at h
        · rename_i te vs es lo hi op hte hb
          cases hg : (te.zero.all flatB && Nat.beq te.zero.length te.size) with
          | false => rw [hg] at h; cases h
          | true =>
            rw [hg] at h
            simp only [cond_true] at h
            simp only [Bool.and_eq_true] at hg
            split at h
            · rename_i vs2 hvs2
              simp only [Option.some.injEq] at h; subst h
              obtain ⟨us, opr, wr', j1, j2, j3, j4, j5, j6, j7⟩ := hx.cells g1 hb
              obtain rfl := j2 rfl
              obtain ⟨r1, r2, r3, r4⟩ := roomX_ok hvs2 j3 j4 j5 j6 j7
              have hzl := Nat.eq_of_beq_eq_true hg.2
              have hl : (rep te.zero m).length = m * te.size := by rw [rep_length, hzl]
              have hone := rep_all (all_flat_one hg.1) m
              refine ef_other (sl1 j1 (hx.lt _ _ _ g1).2) (Ke := fun u H' => u = .tuple #[] ∧ H' = hset [(b', .cells us opr true)] 0 (.cells (splice us o (rep te.zero m)) opr true))
                (OtherP.clear (hT.spec hti) hd (hT.spec hte) h1 (setN_splice (by omega)) hone .here ⟨rfl, rfl⟩) ?_
              rintro u A' H' q1 q2 ⟨rfl, rfl⟩
              exact ef_splice hx g1 hb (sl1 j1 (hx.lt _ _ _ g1).2) .here r2 j4 r3 r4 j7 ((VL.refl_flat hg.1).rep m) hone (by omega) q1 q2 .undef
            · cases h
        · cases h
      · cases h
    · cases h
  · cases h

theorem OtherP.makeSlice {x y : Operand} {tt e : TypeId} {ti te : TI} {len cap : Nat} {F : Fr} {Hs : Heap} {K : Value → Heap → Prop}
    (hs : TiSpec P tt ti) (hds : ti.desc = .slice e) (he : TiSpec P e te) (hx : opv F x = some (.int .i64 (len : Nat))) (hy : opv F y = some (.int .i64 (cap : Nat))) (hle : len ≤ cap) (hp : 1 ≤ te.bytes) (hb : te.bytes * cap ≤ 16777216)
    (hk : ∀ b, K (.slice (some ⟨b, 0, none⟩) len cap) ((b, .cells (rep te.zero cap) false true) :: Hs)) (hz1 : te.zero.length = te.size) : OtherP P ⟨d, .makeSlice tt x y, ty, p, af, g⟩ F Hs K := by
  obtain ⟨inf, z, i1, i2, i3, i4⟩ := he.info
  obtain ⟨inf', i5, i6⟩ := he.bytes
  rw [i1] at i5; obtain rfl := Option.some.inj i5
  have hu := hs.und
  rw [hds] at hu
  have hcap : cap ≤ 16777216 := by
    have : 1 * cap ≤ te.bytes * cap := Nat.mul_le_mul_right _ hp
    omega
  refine OtherP.of_run (s := do askRoom (cap * inf.bytes); let r ← newObj (.cells (rep te.zero cap).toArray e); pure (.value (.slice (some ⟨r, 0, none⟩) len cap))) (fun A hA t ht w hw => ?_) fun A hA => ?_
  · have w1 : IntKind.i64.wrap (len : Int) = len := wrap_i64 (by omega) (by omega)
    have w2 : IntKind.i64.wrap (cap : Int) = cap := wrap_i64 (by omega) (by omega)
    have c1 : ¬ ((inf.bytes : Int) * cap > 281474976710656) := by
      rw [i6]
      have : ((te.bytes * cap : Nat) : Int) ≤ 16777216 := by omega
      have h2 : ((te.bytes * cap : Nat) : Int) = (te.bytes : Int) * cap := by simp
      omega
    have c2 : ¬ (281474976710656 : Int) < (inf.bytes : Int) * cap := c1
    have c3 : ¬ (cap : Int) < 0 := by omega
    have c4 : ¬ (len : Int) < 0 := by omega
    have c5 : ¬ (cap : Int) < len := by omega
    have hzs : z.cells.size = inf.size := by rw [i2, ← hz1, ← i4]; simp
    have hrow : (Array.range (cap * inf.size)).map (fun i => z.cells[i % z.cells.size]!) = (rep te.zero cap).toArray := by
      apply Array.ext'
      have := zeroCells_rep te.zero z i4 cap
      unfold Builtin.zeroCells at this
      rw [hzs] at this
      rw [hzs]
      exact this
    simp only [execOp, opv_eval ht hx, opv_eval ht hy]
    by_cases h0 : cap * inf.size = 0
    · have he0 : (rep te.zero cap).toArray = #[] := by
        have : rep te.zero cap = [] := by
          apply List.eq_nil_of_length_eq_zero
          rw [rep_length, hz1, ← i2]; exact h0
        rw [this]
      have hrow0 : (Array.map (fun _ : Nat => (default : Value)) (Array.range 0)) = #[] := by apply Array.ext'; simp
      simp [Instr.makeSlice, underlying, hu, asInt, asIntOf, typeInfo, i1, w1, w2, c2, c3, c4, c5, sizeOf, h0, he0, newRow, hrow0]
    · simp [Instr.makeSlice, underlying, hu, asInt, asIntOf, typeInfo, i1, w1, w2, c2, c3, c4, c5, sizeOf, h0, zeroValue, i3, newRow, hrow]
  · refine (semA_askRoom _).bind fun _ A1 _ h1 => ?_
    subst h1
    refine SemA.of_wp ?_
    simp only [newObj, wpA_bind, wpA_pure, wpA, of_new]
    obtain ⟨k1, k2⟩ := hA.push (.cells (rep te.zero cap) false true)
    exact ⟨_, k1, k2, hk _⟩

set_option maxHeartbeats 1000000 in
theorem ef_makeSlice (hT : TabOk P T) (hF : FR R N F t) (hx : HX W0 R n H A) {tt : TypeId} {x y : Operand}
    (h : efOp T ⟨d, .makeSlice tt x y, ty, p, af, g⟩ F H n = some l) : opA P ⟨d, .makeSlice tt x y, ty, p, af, g⟩ t A (EfPost W0 R l) := by
  simp only [efOp] at h
  split at h
  · rename_i len cap hl hc
    obtain ⟨u1, h1, h2⟩ := opvX_ok hF hl
    obtain rfl := h2.int
    obtain ⟨u2, h3, h4⟩ := opvX_ok hF hc
    obtain rfl := h4.int
    split at h
    · rename_i ti hti
      split at h
      · rename_i e hd
        split at h
        · rename_i te hte
          cases hg : (te.zero.all flatB && Nat.beq te.zero.length te.size && Nat.ble 1 te.size && Nat.ble len cap && Nat.ble 1 te.bytes && Nat.ble (te.bytes * cap) 16777216) with
          | false => rw [hg] at h; cases h
          | true =>
            rw [hg] at h
            simp only [cond_true, Option.some.injEq] at h; subst h
            simp only [Bool.and_eq_true] at hg
            obtain ⟨⟨⟨⟨⟨q1, q2⟩, q3⟩, q4⟩, q5⟩, q6⟩ := hg
            have hcap : cap ≤ 16777216 := by
              have : 1 * cap ≤ te.bytes * cap := Nat.mul_le_mul_right _ (ble_le q5)
              have := ble_le q6
              omega
            refine ef_other (sl0 A) (Ke := fun u H' => ∃ b, u = .slice (some ⟨b, 0, none⟩) len cap ∧ H' = [(b, .cells (rep te.zero cap) false true)])
              (OtherP.makeSlice (hT.spec hti) hd (hT.spec hte) h1 h3 (ble_le q4) (ble_le q5) (ble_le q6) (fun b => ⟨b, rfl, rfl⟩) (Nat.eq_of_beq_eq_true q2)) ?_
            rintro u A' H' g1 g2 ⟨b, rfl, rfl⟩
            exact ef_new hx (sl0 A) (κ := 0) g1 g2 (OR.new ((VL.refl_flat q1).rep cap) (rep_all (all_flat_one q1) _)) (.slice addR_new (by unfold bigU; omega))
        · cases h
      · cases h
    · cases h
  · cases h

theorem OtherP.newIter {x : Operand} {tt : TypeId} {F : Fr} {Hs : Heap} {K : Value → Heap → Prop} {it : Obj} (hn : notCells it = true)
    (hrun : ∀ A, SL A Hs → ∀ t, TR F t → ∀ w, HR A w → (Instr.range tt ((Act.mk t []).eval x)).run P w = (do let r ← newObj it; pure (Value.pointer (some ⟨r, 0, none⟩))).run P w)
    (hk : ∀ b, K (.pointer (some ⟨b, 0, none⟩)) ((b, .obj it true) :: Hs)) : OtherP P ⟨d, .range tt x, ty, p, af, g⟩ F Hs K := by
  refine OtherP.of_wp (s := do let r ← newObj it; pure (.value (.pointer (some ⟨r, 0, none⟩)))) (fun A hA t ht w hw => ?_) fun A hA => ?_
  · simp only [execOp, Sem.run_bind, hrun A hA t ht w hw]
    simp
  · simp only [newObj, wpA_bind, wpA_pure, wpA]
    have e : AObj.of it = .obj it true := by cases it <;> first | rfl | (simp [notCells] at hn)
    rw [e]
    have := hA.push (.obj it true)
    exact ⟨_, rfl, _, this.1, this.2, hk _⟩

set_option maxHeartbeats 1000000 in
theorem ef_range (hT : TabOk P T) (hF : FR R N F t) (hx : HX W0 R n H A) {tt : TypeId} {x : Operand}
    (h : efOp T ⟨d, .range tt x, ty, p, af, g⟩ F H n = some l) : opA P ⟨d, .range tt x, ty, p, af, g⟩ t A (EfPost W0 R l) := by
  simp only [efOp] at h
  split at h
  · rename_i v hv
    obtain ⟨u1, h1, h2⟩ := opvX_ok hF hv
    split at h
    · rename_i ti hti
      have hu := (hT.spec hti).und
      split at h
      · rename_i s hd
        obtain rfl := h2.string
        simp only [Option.some.injEq] at h; subst h
        rw [hd] at hu
        refine ef_other (sl0 A) (Ke := fun u H' => ∃ b, u = .pointer (some ⟨b, 0, none⟩) ∧ H' = [(b, .obj (.stringIter s 0) true)])
          (OtherP.newIter rfl (fun A hA t ht w hw => by rw [opv_eval ht h1]; simp [Instr.range, underlying, hu]) fun b => ⟨b, rfl, rfl⟩) ?_
        rintro u A' H' g1 g2 ⟨b, rfl, rfl⟩
        exact ef_new hx (sl0 A) (κ := 0) g1 g2 rfl .newPtr
      · rename_i kt et hd
        obtain rfl := h2.flat_eq rfl
        simp only [Option.some.injEq] at h; subst h
        rw [hd] at hu
        refine ef_other (sl0 A) (Ke := fun u H' => ∃ b, u = .pointer (some ⟨b, 0, none⟩) ∧ H' = [(b, .obj (.mapIter none 0 #[] 0) true)])
          (OtherP.newIter rfl (fun A hA t ht w hw => by rw [opv_eval ht h1]; simp [Instr.range, underlying, hu]) fun b => ⟨b, rfl, rfl⟩) ?_
        rintro u A' H' g1 g2 ⟨b, rfl, rfl⟩
        exact ef_new hx (sl0 A) (κ := 0) g1 g2 ⟨none, rfl, .inl ⟨rfl, rfl⟩⟩ .newPtr
      · rename_i kt et m hd
        obtain ⟨b', κ, h3, rfl⟩ := h2.map_inv
        split at h
        · rename_i q c hb
          simp only [Option.some.injEq] at h; subst h
          rw [hd] at hu
          obtain ⟨q', k1, k2⟩ := hx.map h3 hb
          refine ef_other (sl1 k1 (hx.lt _ _ _ h3).2) (Ke := fun u H' => ∃ b, u = .pointer (some ⟨b, 0, none⟩) ∧ H' = (b, .obj (.mapIter (some b') c #[] c) true) :: [(b', .obj (mapObj q' c) true)])
            (OtherP.newIter rfl (fun A2 hA t ht w hw => by
              obtain ⟨hg, _, _⟩ := hw.obj _ _ _ (hA.at .here)
              have hgo : (getObj b').run P w = .ok (mapObj q' c) w := by simp only [getObj, Sem.run, hg, mapObj]
              rw [opv_eval ht h1]; simp [Instr.range, underlying, hu, hgo, mapObj]) fun b => ⟨b, rfl, rfl⟩) ?_
          rintro u A' H' g1 g2 ⟨b, rfl, rfl⟩
          exact ef_new hx (sl1 k1 (hx.lt _ _ _ h3).2) (κ := 0) g1 g2 ⟨some b', rfl, .inr ⟨m, b', κ, rfl, rfl, .inl h3⟩⟩ .newPtr
        · cases h
      · cases h
    · cases h
  · cases h

end ops
end Go.Am

namespace Go.Am
open Go

theorem EL.born {R : RelB} {l l' : List Ent} (h : EL R l l') : l.map (·.2.2) = l'.map (·.2.2) := by
  induction h with
  | nil => rfl
  | cons _ _ ih => simp [ih]

theorem EL.filter {R : RelB} {l l' : List Ent} (h : EL R l l') (q : Nat → Bool) : EL R (l.filter fun e => q e.2.2) (l'.filter fun e => q e.2.2) := by
  induction h with
  | nil => exact .nil
  | cons hv _ ih =>
    rename_i k v u m l l' _
    simp only [List.filter_cons]
    cases q m with
    | true => exact .cons hv ih
    | false => exact ih

theorem EL.all {R : RelB} {l l' : List Ent} (h : EL R l l') (q : Nat → Bool) : l'.all (fun e => q e.2.2) = l.all (fun e => q e.2.2) := by
  induction h with
  | nil => rfl
  | cons _ _ ih => simp [ih]

theorem EL.any {R : RelB} {l l' : List Ent} (h : EL R l l') (q : Nat → Bool) : l'.any (fun e => q e.2.2) = l.any (fun e => q e.2.2) := by
  induction h with
  | nil => rfl
  | cons _ _ ih => simp [ih]

theorem EL.get {R : RelB} {l l' : List Ent} (h : EL R l l') : ∀ {i : Nat} {e : Ent}, l'[i]? = some e → ∃ v, (e.1, v, e.2.2) ∈ l ∧ VR R v e.2.1 := by
  induction h with
  | nil => intro i e he; simp at he
  | cons hv _ ih =>
    rename_i k v u m l l' _
    intro i e he
    cases i with
    | zero => simp only [List.getElem?_cons_zero, Option.some.injEq] at he; subst he; exact ⟨v, List.mem_cons_self, hv⟩
    | succ i => obtain ⟨w, h1, h2⟩ := ih (by simpa using he); exact ⟨w, List.mem_cons_of_mem _ h1, h2⟩

section ops
variable {P : Program} {T : Nat → Option TI} {R : RelB} {N : Nat} {F : BT Value} {t : Array Value} {o : Oper} {W0 : AHeap} {n : Nat} {H : BT XO} {A : AHeap} {d : Option Tmp} {ty : TypeId} {p : String} {af : Array Edge} {g : Option (Nat × Bool)} {l : List Eff}

theorem nextL_mem {r m since : Nat} {seen : List Nat} {c : Nat} : ∀ {l : List Ent} {e : Ent}, e ∈ l → (.tuple #[.bool true, S e.1, e.2.1], BT.put 32 H r (some (.miter (some m) since (seen ++ [e.2.2]) c)), n) ∈ nextL r m since seen c H n l := by
  intro l
  induction l with
  | nil => intro e he; cases he
  | cons x l ih =>
    intro e he
    rcases List.mem_cons.1 he with rfl | he
    · exact List.mem_cons_self
    · exact List.mem_cons_of_mem _ (ih he)

theorem semA_mapNext {A : AHeap} {k : Nat} (hk : 0 < k) : SemA P (choose (.mapNext k)) A (fun i A' => A' = A ∧ i < k) := by
  refine SemA.of_wp ?_
  simp only [choose, wpA]
  split
  · exact ⟨trivial, hk⟩
  · intro t; exact ⟨trivial, Nat.mod_lt _ hk⟩

theorem OtherP.stepObj {r i : Nat} {o1 o2 : Obj} {v : Value} {F : Fr} {Hs : Heap} {K : Value → Heap → Prop} (ha : At Hs r (.obj o1 true) i) (hn : notCells o2 = true)
    (hrun : ∀ A, SL A Hs → ∀ t, TR F t → ∀ w, HR A w → (execOp (Act.eval ⟨t, []⟩) o).run P w = (do setObj r o2; pure (Next.value v)).run P w) (hk : K v (hset Hs i (.obj o2 true))) : OtherP P o F Hs K := by
  refine OtherP.of_wp hrun fun A hA => ?_
  simp only [setObj, wpA_bind, wpA, wpA_pure]
  obtain ⟨k1, k2⟩ := hA.set ha (.obj o2 true)
  exact ⟨_, hA.at ha, hn, _, rfl, _, k1, k2, hk⟩

theorem OtherP.value {v : Value} {F : Fr} {Hs : Heap} {K : Value → Heap → Prop}
    (hrun : ∀ A, SL A Hs → ∀ t, TR F t → ∀ w, HR A w → (execOp (Act.eval ⟨t, []⟩) o).run P w = .ok (.value v) w) (hk : K v Hs) : OtherP P o F Hs K :=
  OtherP.of_wp (s := pure (.value v)) (fun A hA t ht w hw => by rw [hrun A hA t ht w hw]; rfl) fun A hA => ⟨_, rfl, Hs, hA, .refl _ _, hk⟩

theorem contains_any (seen : List Nat) (b : Nat) : seen.toArray.contains b = seen.any (Nat.beq b) := by
  rw [Bool.eq_iff_iff]
  simp

set_option maxHeartbeats 2000000 in
theorem ef_next (hF : FR R N F t) (hx : HX W0 R n H A) {x : Operand} {isS : Bool}
    (h : efOp T ⟨d, .next x isS, ty, p, af, g⟩ F H n = some l) : opA P ⟨d, .next x isS, ty, p, af, g⟩ t A (EfPost W0 R l) := by
  simp only [efOp] at h
  split at h
  · rename_i r hr
    obtain ⟨u1, h1, h2⟩ := opvX_ok hF hr
    obtain ⟨r', κ, h3, rfl⟩ := h2.ptr_inv
    have hlt := (hx.lt _ _ _ h3).2
    split at h
    · rename_i s pos hb
      have k1 : A.get r' = .obj (.stringIter s pos) true := hx.at hb h3
      have hgo : ∀ A2, SL A2 [(r', .obj (.stringIter s pos) true)] → ∀ w, HR A2 w → (getObj r').run P w = .ok (.stringIter s pos) w := fun A2 hA w hw => by
        obtain ⟨hg, _, _⟩ := hw.obj _ _ _ (hA.at .here)
        simp only [getObj, Sem.run, hg]
      cases hp : Nat.blt pos s.size with
      | true =>
        rw [hp] at h
        simp only [cond_true, Option.some.injEq] at h; subst h
        have hpl := blt_lt hp
        refine ef_other (sl1 k1 hlt) (Ke := fun u H' => u = .tuple #[.bool true, .int .i64 pos, .int .i32 (Utf8.decode s pos).1] ∧ H' = hset [(r', .obj (.stringIter s pos) true)] 0 (.obj (.stringIter s (pos + (Utf8.decode s pos).2)) true))
          (OtherP.stepObj .here rfl (fun A2 hA t ht w hw => by
            simp only [execOp, opv_eval ht h1]
            simp [Instr.next, hgo A2 hA w hw, hpl, goInt]
            generalize (setObj r' (Obj.stringIter s (pos + (Utf8.decode s pos).snd))).run P w = r3
            cases r3 <;> rfl) ⟨rfl, rfl⟩) ?_
        rintro u A' H' g1 g2 ⟨rfl, rfl⟩
        obtain ⟨f1, f2, f3⟩ := kf_set (sl1 k1 hlt) .here g1 g2
        exact ⟨_, List.mem_cons_self, R, fun _ _ _ h => h, hx.set hb h3 f2 f3 (by rw [f1]; exact rfl), .tuple (.refl_flat rfl)⟩
      | false =>
        rw [hp] at h
        simp only [cond_false, Option.some.injEq] at h; subst h
        have hpl : ¬ pos < s.size := fun e => by rw [lt_blt e] at hp; cases hp
        refine ef_other (sl1 k1 hlt) (Ke := fun u H' => u = .tuple #[.bool false] ∧ H' = [(r', .obj (.stringIter s pos) true)])
          (OtherP.value (fun A2 hA t ht w hw => by
            simp only [execOp, opv_eval ht h1]
            simp [Instr.next, hgo A2 hA w hw, hpl]) ⟨rfl, rfl⟩) ?_
        rintro u A' H' g1 g2 ⟨rfl, rfl⟩
        obtain ⟨f1, f2⟩ := kf_same (sl1 k1 hlt) g1 g2
        exact ⟨_, List.mem_cons_self, R, fun _ _ _ h => h, hx.keep f1 f2, .tuple (.refl_flat rfl)⟩
    · rename_i since seen last hb
      simp only [Option.some.injEq] at h; subst h
      obtain ⟨m', k1, k2⟩ := hx.at hb h3
      rcases k2 with ⟨_, rfl⟩ | ⟨_, _, _, e, _⟩
      · refine ef_other (sl1 k1 hlt) (Ke := fun u H' => u = .tuple #[.bool false] ∧ H' = [(r', .obj (.mapIter none since seen.toArray last) true)])
          (OtherP.value (fun A2 hA t ht w hw => by
            obtain ⟨hg, _, _⟩ := hw.obj _ _ _ (hA.at .here)
            have hgo : (getObj r').run P w = .ok (.mapIter none since seen.toArray last) w := by simp only [getObj, Sem.run, hg]
            simp only [execOp, opv_eval ht h1]
            simp [Instr.next, hgo]) ⟨rfl, rfl⟩) ?_
        rintro u A' H' g1 g2 ⟨rfl, rfl⟩
        obtain ⟨f1, f2⟩ := kf_same (sl1 k1 hlt) g1 g2
        exact ⟨_, List.mem_cons_self, R, fun _ _ _ h => h, hx.keep f1 f2, .tuple (.refl_flat rfl)⟩
      · cases e
    · rename_i m since seen last hb
      split at h
      · rename_i q c hm
        obtain ⟨m0, k1, k2⟩ := hx.at hb h3
        rcases k2 with ⟨e, _⟩ | ⟨mm, m', κ2, e, rfl, h5⟩
        · cases e
        · cases e
          obtain ⟨q', k3, k4⟩ := hx.map h5 hm
          unfold nextX at h
          cases hg : (q.all (fun e => Nat.blt e.2.2 since) && (seen.isEmpty || q.isEmpty || q.any (fun e => Nat.blt e.2.2 last))) with
          | false => rw [hg] at h; cases h
          | true =>
            rw [hg] at h
            simp only [cond_true] at h
            simp only [Bool.and_eq_true] at hg
            have hne : r' ≠ m' := fun e => by subst e; rw [k1] at k3; cases k3
            have hsl : SL A [(r', .obj (.mapIter (some m') since seen.toArray last) true), (m', .obj (mapObj q' c) true)] := by
              refine ⟨by simp [keys, hne], fun y hy => ?_⟩
              rcases List.mem_cons.1 hy with rfl | hy
              · exact ⟨k1, hlt⟩
              · simp only [List.mem_singleton] at hy; subst hy; exact ⟨k3, (hx.lt _ _ _ h5).2⟩
            have hgo : ∀ A2, SL A2 [(r', .obj (.mapIter (some m') since seen.toArray last) true), (m', .obj (mapObj q' c) true)] → ∀ w, HR A2 w →
                (getObj r').run P w = .ok (.mapIter (some m') since seen.toArray last) w ∧ (getObj m').run P w = .ok (mapObj q' c) w := fun A2 hA w hw => by
              obtain ⟨hg1, _, _⟩ := hw.obj _ _ _ (hA.at .here)
              obtain ⟨hg2, _, _⟩ := hw.obj _ _ _ (hA.at (.there .here))
              exact ⟨by simp only [getObj, Sem.run, hg1], by simp only [getObj, Sem.run, hg2, mapObj]⟩
            have hall : q'.all (fun e => Nat.blt e.2.2 since) = true := by rw [k4.all (fun b => Nat.blt b since)]; exact hg.1
            have hguard : (!seen.toArray.isEmpty && !(q'.map entOf).toArray.isEmpty && (q'.map entOf).toArray.all (fun e => decide (e.born ≥ last))) = false := by
              have hany : q'.any (fun e => Nat.blt e.2.2 last) = q.any (fun e => Nat.blt e.2.2 last) := k4.any (fun b => Nat.blt b last)
              have hemp : q'.isEmpty = q.isEmpty := by have := k4.length; cases q <;> cases q' <;> simp_all
              rw [Bool.eq_false_iff]
              intro hc
              simp only [Bool.and_eq_true, Bool.not_eq_true'] at hc
              obtain ⟨⟨c1, c2⟩, c3⟩ := hc
              have c1' : seen.isEmpty = false := by simpa using c1
              have c2' : q.isEmpty = false := by rw [← hemp]; simpa using c2
              rw [c1', c2'] at hg
              simp only [Bool.or_self, Bool.false_or] at hg
              have h6 := hg.2
              rw [← hany] at h6
              obtain ⟨e, he, hlt2⟩ := List.any_eq_true.1 h6
              have h7 := blt_lt hlt2
              simp only [List.all_toArray, List.all_map, List.all_eq_true] at c3
              have h8 := c3 e he
              simp only [Function.comp, entOf, ge_iff_le, decide_eq_true_eq] at h8
              omega
            have hleft : ((q'.map entOf).toArray.filter fun e => !seen.toArray.contains e.born) = ((q'.filter fun e => !seen.any (Nat.beq e.2.2)).map entOf).toArray := by
              rw [List.filter_toArray, List.filter_map]
              congr 1
              apply congrArg
              apply List.filter_congr
              intro e _
              simp only [Function.comp, entOf, contains_any]
            have hold : (((q'.filter fun e => !seen.any (Nat.beq e.2.2)).map entOf).toArray.filter fun e => decide (e.born < since)) = ((q'.filter fun e => !seen.any (Nat.beq e.2.2)).map entOf).toArray := by
              rw [List.filter_toArray]
              congr 1
              rw [List.filter_eq_self]
              intro e he
              obtain ⟨x, hx1, rfl⟩ := List.mem_map.1 he
              have := List.all_eq_true.1 hall x (List.mem_filter.1 hx1).1
              exact decide_eq_true (blt_lt this)
            have hnew : (((q'.filter fun e => !seen.any (Nat.beq e.2.2)).map entOf).toArray.filter fun e => decide (e.born ≥ since)) = #[] := by
              rw [List.filter_toArray]
              congr 1
              rw [List.filter_eq_nil_iff]
              intro e he
              obtain ⟨x, hx1, rfl⟩ := List.mem_map.1 he
              have := blt_lt (List.all_eq_true.1 hall x (List.mem_filter.1 hx1).1)
              simp only [entOf, ge_iff_le, decide_eq_true_eq]
              omega
            have kf := k4.filter (fun b => !seen.any (Nat.beq b))
            obtain ⟨L, hL⟩ : ∃ L, (q'.filter fun e => !seen.any (Nat.beq e.2.2)) = L := ⟨_, rfl⟩
            rw [hL] at hleft hold hnew kf
            split at h
            · rename_i hnil
              rw [hnil] at kf
              have hLn : L = [] := by cases kf; rfl
              subst hLn
              simp only [Option.some.injEq] at h; subst h
              refine ef_other hsl (Ke := fun u H' => u = .tuple #[.bool false] ∧ H' = _)
                (OtherP.value (fun A2 hA t ht w hw => by
                  obtain ⟨g1, g2⟩ := hgo A2 hA w hw
                  simp only [execOp, opv_eval ht h1]
                  simp only [mapObj] at g2
                  simp only [Instr.next, Sem.run_bind, g1, g2, Result.andThen, hguard, Bool.false_eq_true, if_false]
                  rw [hleft, hold, hnew]
                  simp [Question.forced]) ⟨rfl, rfl⟩) ?_
              rintro u A' H' g1 g2 ⟨rfl, rfl⟩
              obtain ⟨f1, f2⟩ := kf_same hsl g1 g2
              exact ⟨_, List.mem_cons_self, R, fun _ _ _ h => h, hx.keep f1 f2, .tuple (.refl_flat rfl)⟩
            · rename_i left hne2
              simp only [Option.some.injEq] at h; subst h
              have hLpos : 0 < L.length := by
                rw [← kf.length]
                cases hq : (q.filter fun e => !seen.any (Nat.beq e.2.2)) with
                | nil => exact absurd hq hne2
                | cons _ _ => simp
              have hLe : (L.map entOf).isEmpty = false := by cases L with
                | nil => simp at hLpos
                | cons _ _ => rfl
              refine ef_other hsl (Ke := fun u H' => ∃ e, e ∈ L ∧ (∃ i, L[i]? = some e) ∧ u = .tuple #[.bool true, S e.1, e.2.1] ∧ H' = hset [(r', .obj (.mapIter (some m') since seen.toArray last) true), (m', .obj (mapObj q' c) true)] 0 (.obj (.mapIter (some m') since (seen.toArray.push e.2.2) c) true))
                (OtherP.of_run (s := do
                    let i ← choose (.mapNext L.length)
                    match L[i]? with
                    | some e => do setObj r' (.mapIter (some m') since (seen.toArray.push e.2.2) c); pure (.value (.tuple #[.bool true, S e.1, e.2.1]))
                    | none => stuck "Next: no such candidate") (fun A2 hA t ht w hw => by
                  obtain ⟨g1, g2⟩ := hgo A2 hA w hw
                  simp only [execOp, opv_eval ht h1]
                  simp only [mapObj] at g2
                  simp only [Instr.next, Sem.run_bind, g1, g2, Result.andThen, hguard, Bool.false_eq_true, if_false]
                  rw [hleft, hold, hnew]
                  simp [hLe]
                  generalize (if (Question.mapNext L.length).forced = true then Result.ok 0 w else Result.ok ((Question.mapNext L.length).cut (w.tape w.drawn (Question.mapNext L.length))) w.drew) = res
                  cases res with
                  | halt _ _ => rfl
                  | ok i w' =>
                    simp only [Result.andThen]
                    cases hi : L[i]? with
                    | none => simp
                    | some e =>
                      simp only [Option.map_some, entOf]
                      simp
                      have eb : (entOf e).born = e.2.2 := rfl
                      have ek : (entOf e).key = S e.1 := rfl
                      have ev : (entOf e).val = e.2.1 := rfl
                      rw [eb, ek, ev]
                      generalize (setObj r' (.mapIter (some m') since (seen ++ [e.2.2]).toArray c)).run P w' = r3
                      cases r3 <;> rfl) (fun A2 hA => by
                  refine (semA_mapNext hLpos).bind fun i A3 _ ⟨e1, hi⟩ => ?_
                  subst e1
                  rw [List.getElem?_eq_getElem hi]
                  refine SemA.of_wp ?_
                  simp only [setObj, wpA_bind, wpA, wpA_pure]
                  obtain ⟨k6, k7⟩ := hA.set .here (.obj (.mapIter (some m') since (seen.toArray.push L[i].2.2) c) true)
                  exact ⟨_, hA.at .here, rfl, _, k6, k7, L[i], List.getElem_mem hi, ⟨i, List.getElem?_eq_getElem hi⟩, rfl, rfl⟩)) ?_
              rintro u A' H' g1 g2 ⟨e, he, ⟨i, hi⟩, rfl, rfl⟩
              obtain ⟨f1, f2, f3⟩ := kf_set hsl .here g1 g2
              obtain ⟨v, hv1, hv2⟩ := kf.get hi
              refine ⟨_, nextL_mem hv1, R, fun _ _ _ h => h, hx.set hb h3 f2 f3 ?_, .tuple (.cons (.flat _ rfl) (.cons (.flat _ rfl) (.cons hv2 .nil)))⟩
              rw [f1]
              exact ⟨some m', by simp, .inr ⟨m, m', κ2, rfl, rfl, h5⟩⟩
      · cases h
    · cases h
  · cases h

theorem efOp_ok (hT : TabOk P T) (hF : FR R N F t) (hx : HX W0 R n H A) (h : efOp T o F H n = some l) : opA P o t A (EfPost W0 R l) := by
  obtain ⟨d, op, ty, p, af, g⟩ := o
  cases op with
  | store tt x y => exact ef_store hT hF hx h
  | alloc tt => exact ef_alloc hT hx h
  | box tt x => exact ef_box hT hF hx h
  | buildSlice tt len ps => exact ef_buildSlice hT hF hx h
  | makeMap tt rv => exact ef_makeMap hx h
  | mapUpdate tt x y z => exact ef_mapUpdate hT hF hx h
  | convert s d x => exact ef_convert hT hF hx h
  | binOp op tt x y yt => exact ef_gtr hF hx h
  | range tt x => exact ef_range hT hF hx h
  | next x s => exact ef_next hF hx h
  | makeSlice tt x y => exact ef_makeSlice hT hF hx h
  | call c =>
    obtain ⟨callee, ⟨xs⟩, ⟨ats⟩⟩ := c
    cases callee with
    | builtin b =>
      cases b <;> first | (simp [efOp] at h; done) | skip
      · rcases xs with _ | ⟨x, _ | ⟨y, _ | ⟨_, _⟩⟩⟩ <;> rcases ats with _ | ⟨sT, _ | ⟨xT, _ | ⟨_, _⟩⟩⟩ <;> first | (simp [efOp] at h; done) | skip
        exact ef_append hT hF hx h
      · rcases xs with _ | ⟨x, _ | ⟨_, _⟩⟩ <;> rcases ats with _ | ⟨sT, _ | ⟨_, _⟩⟩ <;> first | (simp [efOp] at h; done) | skip
        exact ef_clear hT hF hx h
      · rcases xs with _ | ⟨x, _ | ⟨y, _ | ⟨_, _⟩⟩⟩ <;> rcases ats with _ | ⟨sT, _ | ⟨xT, _ | ⟨_, _⟩⟩⟩ <;> first | (simp [efOp] at h; done) | skip
        exact ef_copy hT hF hx h
    | _ => simp [efOp] at h
  | _ => simp [efOp] at h

end ops
end Go.Am
