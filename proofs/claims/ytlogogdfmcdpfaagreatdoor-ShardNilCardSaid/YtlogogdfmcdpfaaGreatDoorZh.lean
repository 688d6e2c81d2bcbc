/-
A command, opened.
-/
import Derived.Test.YtlogogdfmcdpfaaGreatDoorZf
import Derived.Test.YtlogogdfmcdpfaaGreatDoorWk
import Derived.SizedLaws
set_option linter.all false
namespace Go.Z
open Go Go.Am Go.Proofs
set_option maxRecDepth 10000

theorem list17 : ∀ (l : List Value), l.length = 17 → ∃ a b c d e f g h i j k m n o p q r, l = [a, b, c, d, e, f, g, h, i, j, k, m, n, o, p, q, r]
  | [a, b, c, d, e, f, g, h, i, j, k, m, n, o, p, q, r], _ => ⟨a, b, c, d, e, f, g, h, i, j, k, m, n, o, p, q, r, rfl⟩

theorem c2 : Tryz.prog.cellsOf 2 = 1 := by kernel_rfl
theorem c3 : Tryz.prog.cellsOf 3 = 1 := by kernel_rfl
theorem c4 : Tryz.prog.cellsOf 4 = 1 := by kernel_rfl
theorem c5 : Tryz.prog.cellsOf 5 = 1 := by kernel_rfl
theorem c9 : Tryz.prog.cellsOf 9 = 1 := by kernel_rfl
theorem c25 : Tryz.prog.cellsOf 25 = 1 := by kernel_rfl
theorem c39 : Tryz.prog.cellsOf 39 = 1 := by kernel_rfl
theorem c31 : Tryz.prog.cellsOf 31 = 7 := by kernel_rfl
theorem by5 : Tryz.prog.bytesOf 5 = 1 := by kernel_rfl
theorem c59 : Tryz.prog.cellsOf 59 = 17 := by kernel_rfl

section
variable {X : Type} {enc : TypeId × Value → X} {W : World} {fuel : Nat}

theorem S_eta' (s : ByteArray) : Value.string s = S s.data.toList := by simp [S]

/-- bytes that came in -/
theorem open_bytes {v : Value} {x : DataW X × List MemPlace} (hw : ∀ n ∈ x.1.weights Tryz.prog 39, n ≤ reachBytes) (h : DataW.trod enc Tryz.prog W 0 (fun _ => true) true fuel 39 [v] = some x) :
    ∃ H m news, SrcOk H 1 v m news ∧ m ≤ 2 ^ 47 - 4096 ∧ SL (AHeap.ofWorld W) H := by
  have h0 := h
  rcases trod_slice' Tryz.underlying39 h with h | ⟨a, len, cap, h, h1, h2, fuel', h3⟩
  · simp only [List.cons.injEq, and_true] at h
    subst h
    exact ⟨[], 0, [], .inl ⟨0, rfl, rfl, rfl⟩, by decide, List.nodup_nil, fun _ h => by cases h⟩
  · simp only [List.cons.injEq, and_true] at h
    subst h
    have hlen : len ≤ reachBytes := by
      obtain ⟨elems, spare, h4, h5⟩ := trod_slice_len Tryz.underlying39 h0
      have := hw ((elems.length + spare.length) * Tryz.prog.bytesOf 5) (by rw [h4]; unfold DataW.weights; rw [Tryz.underlying39]; exact List.mem_cons_self)
      rw [by5] at this
      omega
    unfold reachBytes at hlen
    cases len with
    | zero => exact ⟨[], 0, [], .inr (.inr (.inr ⟨a, cap, rfl, rfl, rfl⟩)), by decide, List.nodup_nil, fun _ h => by cases h⟩
    | succ n =>
      have cell : ∀ i, i < n + 1 → ∃ v, W.cell? (a.add i) = some v := by
        intro i hi
        obtain ⟨y, hy⟩ := h3 i hi
        obtain ⟨cs, h4, _⟩ := Option.bind_eq_some_iff.1 hy
        rw [c5, Nat.mul_one] at h4
        unfold World.cells? at h4
        rw [if_pos (Nat.zero_le _)] at h4
        obtain ⟨v, hv⟩ := mapM_each h4 0 (by simp)
        exact ⟨v, hv⟩
      obtain ⟨v0, hv0⟩ := cell 0 (Nat.succ_pos _)
      obtain ⟨b, o, sp⟩ := a
      have e0 : (Addr.mk b o sp).add 0 = ⟨b, o, sp⟩ := rfl
      rw [e0] at hv0
      obtain ⟨c, e, fz, hb, hsp, _⟩ : ∃ c e fz, W.heap[b]? = some (.cells c e fz) ∧ sp = none ∧ c[o]? = some v0 := by
        simp only [World.cell?] at hv0
        split at hv0
        · rename_i c e fz hb
          cases sp with
          | none => exact ⟨c, e, fz, hb, rfl, by simpa using hv0⟩
          | some s => simp at hv0
        · cases hv0
      subst hsp
      have hlast : o + n < c.size := by
        obtain ⟨v, hv⟩ := cell n (Nat.lt_succ_self _)
        have e1 : (Addr.mk b o none).add n = ⟨b, o + n, none⟩ := by
          unfold Addr.add
          split
          · rename_i h0; subst h0; rfl
          · rfl
        rw [e1] at hv
        simp only [World.cell?, hb] at hv
        have := (Array.getElem?_eq_some_iff.1 (show c[o + n]? = some v by simpa using hv)).1
        exact this
      refine ⟨[(b, .cells c.toList false false)], n + 1, (c.toList.drop o).take ((n + 1) * 1), .inr (.inl ⟨b, o, cap, c.toList, false, false, 0, rfl, .here, rfl, ?_⟩), ?_, ?_⟩
      · simp only [List.length_take, List.length_drop, Array.length_toList]
        omega
      · omega
      · refine ⟨by simp [keys], fun y hy => ?_⟩
        simp only [List.mem_cons, List.not_mem_nil, or_false] at hy
        subst hy
        exact ⟨by simp only [AHeap.ofWorld, hb], (Array.getElem?_eq_some_iff.1 hb).1⟩

theorem open_cmd {cs : List Value} {x : DataW X × List MemPlace} (hw : (DataW.weightsEach Tryz.prog [59] [x.1]).all (· ≤ reachBytes) = true) (h : DataW.trod enc Tryz.prog W 0 (fun _ => true) true fuel 59 cs = some x) :
    ∃ c d H m news, cs = CmdV.cells c d ∧ SrcOk H 1 d m news ∧ m ≤ 2 ^ 47 - 4096 ∧ SL (AHeap.ofWorld W) H := by
  obtain ⟨f9, parts, hp1, hp2⟩ := trod_parts Tryz.underlying59 h
  obtain ⟨hlen, f2, hf⟩ := trod_struct' Tryz.underlying59 h
  rw [c59] at hlen
  obtain ⟨a, b, c, d, e, f, g, h', i, j, k, m, n, o, p, q, r, rfl⟩ := list17 cs hlen
  simp only [List.forall_mem_cons] at hf
  obtain ⟨⟨_, h0⟩, ⟨_, h1⟩, ⟨_, h2⟩, ⟨_, h3⟩, ⟨_, h4⟩, ⟨_, h5⟩, ⟨_, h6⟩, ⟨_, h7⟩, ⟨_, h8⟩, ⟨_, h9⟩, ⟨_, h10⟩, _⟩ := hf
  rw [c3] at h0 h6 h8
  rw [c31] at h1
  rw [c9] at h2 h3
  rw [c2] at h4 h7
  rw [c25] at h5
  rw [c4] at h9
  rw [c39] at h10
  obtain ⟨n0, e0, _⟩ := trod_int' Tryz.underlying3 h0
  obtain ⟨s2, e2, _⟩ := trod_str' Tryz.underlying9 h2
  obtain ⟨s3, e3, _⟩ := trod_str' Tryz.underlying9 h3
  obtain ⟨n4, e4, _⟩ := trod_int' Tryz.underlying2 h4
  obtain ⟨n5, e5, _⟩ := trod_int' Tryz.underlying25 h5
  obtain ⟨n6, e6, _⟩ := trod_int' Tryz.underlying3 h6
  obtain ⟨n7, e7, _⟩ := trod_int' Tryz.underlying2 h7
  obtain ⟨n8, e8, _⟩ := trod_int' Tryz.underlying3 h8
  obtain ⟨b9, e9⟩ := trod_bool' Tryz.underlying4 h9
  obtain ⟨_, f3, hg⟩ := trod_struct' Tryz.underlying31 h1
  simp only [List.forall_mem_cons] at hg
  obtain ⟨⟨_, g0⟩, ⟨_, g1⟩, ⟨_, g2⟩, ⟨_, g3⟩, ⟨_, g4⟩, ⟨_, g5⟩, ⟨_, g6⟩, _⟩ := hg
  rw [c3] at g0 g5 g6
  rw [c9] at g1 g2 g4
  rw [c2] at g3
  obtain ⟨m0, k0, _⟩ := trod_int' Tryz.underlying3 g0
  obtain ⟨t1, k1, _⟩ := trod_str' Tryz.underlying9 g1
  obtain ⟨t2, k2, _⟩ := trod_str' Tryz.underlying9 g2
  obtain ⟨m3, k3, _⟩ := trod_int' Tryz.underlying2 g3
  obtain ⟨t4, k4, _⟩ := trod_str' Tryz.underlying9 g4
  obtain ⟨m5, k5, _⟩ := trod_int' Tryz.underlying3 g5
  obtain ⟨m6, k6, _⟩ := trod_int' Tryz.underlying3 g6
  simp only [List.drop_zero, List.drop_succ_cons, List.take_succ_cons, List.take_zero, List.cons.injEq, and_true] at e0 e2 e3 e4 e5 e6 e7 e8 e9 k0 k1 k2 k3 k4 k5 k6 h10
  subst e0 e2 e3 e4 e5 e6 e7 e8 e9 k0 k1 k2 k3 k4 k5 k6
  obtain ⟨y, hy1, hy2⟩ := hp2 (i := 10) rfl
  have hwb : ∀ n ∈ y.1.weights Tryz.prog 39, n ≤ reachBytes := fun n hn => by
    have := List.all_eq_true.1 hw n (by
      simp only [DataW.weightsEach, List.append_nil]
      rw [hp1]
      unfold DataW.weights
      rw [Tryz.underlying59]
      exact DataW.weights_mem_each (j := 10) (t := 39) rfl hy1 n hn)
    simpa using this
  obtain ⟨H, m, news, q1, q2, q3⟩ := open_bytes hwb (show DataW.trod enc Tryz.prog W 0 (fun _ => true) true f9 39 [r] = some y by
    rw [← hy2]
    show _ = DataW.trod enc Tryz.prog W 0 (fun _ => true) true f9 39 (List.take (Tryz.prog.cellsOf 39) _)
    rw [c39]
    rfl)
  refine ⟨⟨n0, m0, t1.data.toList, t2.data.toList, m3, t4.data.toList, m5, m6, s2.data.toList, s3.data.toList, n4, n5, n6, n7, n8, b9⟩, r, H, m, news, ?_, q1, q2, q3⟩
  simp only [CmdV.cells, ← S_eta']
end
end Go.Z
