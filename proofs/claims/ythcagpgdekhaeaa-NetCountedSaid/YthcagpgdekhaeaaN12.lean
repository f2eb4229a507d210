/- The given arguments of the net's laws, opened: an act, bytes, a slice of acts. -/
import Derived.Test.YthcagpgdekhaeaaN4
import Derived.OpenShut
namespace Go.Proofs.Ythcagpgdekhaeaa
open Go.RowKit Go.ChangeShapes Go.WideShapes Go.Deep
section
variable {H : Type} {enc : TypeId × Value → H} {w : World} {base : Nat} {spare : Nat → Bool} {held : Bool}
theorem struct_field {P : Program} {t T : TypeId} {fs : Array Field} {f : Field} {fuel j o k : Nat} {cs : List Value} {x : DataW H × List MemPlace} (ht : P.underlying t = some (.struct fs)) (h : DataW.trod enc P w base spare held fuel t cs = some x)
    (hj : fs[j]? = some f) (ho : f.offset = o) (hT : f.type = T) (hk : P.cellsOf T = k) : ∃ n y, DataW.trod enc P w base spare held n T ((cs.drop o).take k) = some y := by
  obtain ⟨xs, n, _, _, _, hx, hf⟩ := DataW.trod_struct ht h
  have h1 := hf j f hj
  rw [ho, hT, hk] at h1
  have hlt : j < xs.length := by rw [hx]; exact (Array.getElem?_eq_some_iff.1 hj).1
  rw [List.getElem?_eq_getElem hlt] at h1
  exact ⟨n, _, h1⟩
theorem struct_len {P : Program} {t : TypeId} {fs : Array Field} {fuel : Nat} {cs : List Value} {x : DataW H × List MemPlace} (ht : P.underlying t = some (.struct fs)) (h : DataW.trod enc P w base spare held fuel t cs = some x) : cs.length = P.cellsOf t := by
  obtain ⟨xs, n, _, _, hl, _⟩ := DataW.trod_struct ht h
  exact hl
theorem int_cell {P : Program} {t : TypeId} {k : IntKind} {fuel : Nat} {v : Value} {x : DataW H × List MemPlace} (ht : P.underlying t = some (.int k)) (h : DataW.trod enc P w base spare held fuel t [v] = some x) : ∃ z : Int, v = .int k z ∧ (Lit.int k z).wf = true := by
  obtain ⟨z, e, _, hw⟩ := DataW.trod_int ht h
  exact ⟨z, by simpa using e, hw⟩
theorem u8_range {z : Int} (h : (Lit.int .u8 z).wf = true) : 0 ≤ z ∧ z < 256 := by
  have a : IntKind.u8.min = 0 := by decide
  have b : IntKind.u8.max = 255 := by decide
  simp [Lit.wf, a, b] at h
  omega
/-- A slice of bytes that came in. -/
theorem bytes_open {fuel : Nat} {cs : List Value} {x : DataW H × List MemPlace} (h : DataW.trod enc Try.prog w base spare held fuel 28 cs = some x) : ∃ a n cap, cs = [.slice a n cap] ∧ n ≤ maxLen ∧ ∃ s : ByteArray, n = s.size ∧ Bs w a s := by
  rcases open_slice Try.underlying28 h with ⟨h0, _⟩ | ⟨ad, len, cp, m, q, D, Pl, h0, _, hl, hcm, hm, _, hx⟩
  · exact ⟨none, 0, 0, h0, Nat.zero_le _, ⟨#[]⟩, rfl, fun i hi => by simp [ByteArray.size] at hi⟩
  · have hC : Try.prog.cellsOf 5 = 1 := by kernel_rfl
    rw [hC] at hx
    have key : ∀ i, ∃ c : UInt8, i < len → ∃ b o, some ad = some (⟨b, o, none⟩ : Addr) ∧ w.cell? ⟨b, o + i, none⟩ = some (.int .u8 (c.toNat : Int)) := by
      intro i
      by_cases hi : i < len
      · have him : i < m := by rw [hm]; split <;> omega
        obtain ⟨b, o, spot⟩ := ad
        have hsp : spot = none := by
          obtain ⟨cs0, hc0, _⟩ := hx 0 (by omega)
          obtain ⟨_, hlen0, hat0⟩ := World.cells?_some hc0
          have h0 := hat0 0 (by omega)
          rw [List.getElem?_eq_getElem (by omega)] at h0
          have hs := World.cell?_spot h0
          simpa [Addr.add] using hs
        subst hsp
        obtain ⟨cs, hc, htr⟩ := hx i him
        obtain ⟨_, hlen, hat⟩ := World.cells?_some hc
        match cs, hlen with
        | [v], _ =>
          obtain ⟨z, rfl, hw⟩ := int_cell Try.underlying5 htr
          have hr := u8_range hw
          have h0 := hat 0 (by omega)
          rw [add_none, add_none] at h0
          refine ⟨UInt8.ofNat z.toNat, fun _ => ⟨b, o, rfl, ?_⟩⟩
          have hz : ((UInt8.ofNat z.toNat).toNat : Int) = z := by
            rw [UInt8.toNat_ofNat']
            omega
          rw [hz]
          simpa using h0
      · exact ⟨0, fun h => absurd h hi⟩
    refine ⟨some ad, len, cp, h0, by omega, ⟨((List.range len).map fun i => Classical.choose (key i)).toArray⟩, by simp [ByteArray.size], fun i hi => ?_⟩
    have hi' : i < len := by simpa [ByteArray.size] using hi
    obtain ⟨b, o, e, hc⟩ := Classical.choose_spec (key i) hi'
    refine ⟨b, o, e, ?_⟩
    rw [hc]
    simp [ByteArray.getElem_eq_getElem_data]
/-- An act: its kind, from, bytes, place, place in it, bits. -/
structure A where
  kd : Int
  f : Int
  da : Option Addr
  cap : Nat
  s : ByteArray
  i : Int
  pos : Int
  b : UInt8
def A.cs (x : A) : List Value := [.int .i64 x.kd, .int .i64 x.f, .slice x.da x.s.size x.cap, .int .i64 x.i, .int .i64 x.pos, .int .u8 (x.b.toNat : Int)]
theorem act_cells {fuel : Nat} {cs : List Value} {x : DataW H × List MemPlace} (h : DataW.trod enc Try.prog w base spare held fuel 30 cs = some x) : ∃ c : A, cs = c.cs ∧ Bs w c.da c.s ∧ c.s.size ≤ maxLen := by
  have hl : cs.length = 6 := (struct_len Try.underlying30 h).trans (by kernel_rfl)
  obtain ⟨_, _, h0⟩ := struct_field (j := 0) Try.underlying30 h rfl rfl rfl (show Try.prog.cellsOf 3 = 1 by kernel_rfl)
  obtain ⟨_, _, h1⟩ := struct_field (j := 1) Try.underlying30 h rfl rfl rfl (show Try.prog.cellsOf 3 = 1 by kernel_rfl)
  obtain ⟨_, _, h2⟩ := struct_field (j := 2) Try.underlying30 h rfl rfl rfl (show Try.prog.cellsOf 28 = 1 by kernel_rfl)
  obtain ⟨_, _, h3⟩ := struct_field (j := 3) Try.underlying30 h rfl rfl rfl (show Try.prog.cellsOf 3 = 1 by kernel_rfl)
  obtain ⟨_, _, h4⟩ := struct_field (j := 4) Try.underlying30 h rfl rfl rfl (show Try.prog.cellsOf 3 = 1 by kernel_rfl)
  obtain ⟨_, _, h5⟩ := struct_field (j := 5) Try.underlying30 h rfl rfl rfl (show Try.prog.cellsOf 5 = 1 by kernel_rfl)
  match cs, hl with
  | [v0, v1, v2, v3, v4, v5], _ =>
    obtain ⟨z0, rfl, _⟩ := int_cell Try.underlying3 h0
    obtain ⟨z1, rfl, _⟩ := int_cell Try.underlying3 h1
    obtain ⟨a, n, cap, e2, hn, s, hs, hb⟩ := bytes_open h2
    obtain ⟨z3, rfl, _⟩ := int_cell Try.underlying3 h3
    obtain ⟨z4, rfl, _⟩ := int_cell Try.underlying3 h4
    obtain ⟨z5, rfl, w5⟩ := int_cell Try.underlying5 h5
    have e2' : [v2] = [Value.slice a n cap] := e2
    simp only [List.cons.injEq, and_true] at e2'
    subst e2' hs
    have hr := u8_range w5
    refine ⟨⟨z0, z1, a, cap, s, z3, z4, UInt8.ofNat z5.toNat⟩, ?_, hb, hn⟩
    have hz : ((UInt8.ofNat z5.toNat).toNat : Int) = z5 := by
      rw [UInt8.toNat_ofNat']
      omega
    simp only [A.cs, hz]
theorem act_value {r : Reach} {b0 : Nat} {v : Value} {d : DataW H} {p : List MemPlace} (hv : Value.okWide Try.prog w r b0 30 v) (h : DataW.Trod enc Try.prog w base spare held 30 v d p) :
    ∃ c : A, v = .agg #[.int .i64 c.kd, .int .i64 c.f, .slice c.da c.s.size c.cap, .int .i64 c.i, .int .i64 c.pos, .int .u8 (c.b.toNat : Int)] ∧ Bs w c.da c.s ∧ c.s.size ≤ maxLen := by
  obtain ⟨cs, rfl, _⟩ := okWide_struct Try.underlying30 hv
  obtain ⟨fuel, hf⟩ := h
  obtain ⟨c, e, hb, hn⟩ := act_cells hf
  exact ⟨c, by congr 1; exact Array.toList_inj.1 (by simpa [Value.cells, A.cs] using e), hb, hn⟩
theorem data_open {a : Option Addr} {n cap : Nat} {d : DataW H} {p : List MemPlace} (h : DataW.Trod enc Try.prog w base spare held 28 (.slice a n cap) d p) : n ≤ maxLen ∧ ∃ s : ByteArray, n = s.size ∧ Bs w a s := by
  obtain ⟨fuel, hf⟩ := h
  obtain ⟨a', n', cap', e, hn, s, hs, hb⟩ := bytes_open hf
  simp only [Value.cells, List.cons.injEq, Value.slice.injEq] at e
  obtain ⟨⟨rfl, rfl, rfl⟩, _⟩ := e
  exact ⟨hn, s, hs, hb⟩
/-- Act i of a slice lies in memory. -/
def Acts (w : World) (a : Option Addr) (l : List A) : Prop := ∀ (i : Nat) (x : A), l[i]? = some x → (∃ b o, a = some ⟨b, o, none⟩ ∧ w.cell? ⟨b, o + i * 6, none⟩ = some (.int .i64 x.kd) ∧ w.cell? ⟨b, o + i * 6 + 1, none⟩ = some (.int .i64 x.f) ∧ w.cell? ⟨b, o + i * 6 + 2, none⟩ = some (.slice x.da x.s.size x.cap) ∧
  w.cell? ⟨b, o + i * 6 + 3, none⟩ = some (.int .i64 x.i) ∧ w.cell? ⟨b, o + i * 6 + 4, none⟩ = some (.int .i64 x.pos) ∧ w.cell? ⟨b, o + i * 6 + 5, none⟩ = some (.int .u8 (x.b.toNat : Int))) ∧ Bs w x.da x.s ∧ x.s.size ≤ maxLen
theorem Acts.keep {w w' : World} {a : Option Addr} {l : List A} (h : Acts w a l) (k : Keep (fun _ => False) w w') : Acts w' a l := fun i x hx => by
  obtain ⟨⟨b, o, e, h0, h1, h2, h3, h4, h5⟩, hb, hn⟩ := h i x hx
  have hk : ∀ {j : Nat} {v : Value}, w.cell? ⟨b, j, none⟩ = some v → w'.cell? ⟨b, j, none⟩ = some v := fun hj => (k.rules.1 b _ (World.block_lt_of_cell? w _ hj)).trans hj
  exact ⟨⟨b, o, e, hk h0, hk h1, hk h2, hk h3, hk h4, hk h5⟩, hb.keep0 k, hn⟩
theorem acts_open {a : Option Addr} {n cap : Nat} {d : DataW H} {p : List MemPlace} (h : DataW.Trod enc Try.prog w base spare held 22 (.slice a n cap) d p) : n ≤ maxLen ∧ ∃ l : List A, n = l.length ∧ Acts w a l := by
  obtain ⟨fuel, hh⟩ := h
  rcases open_slice Try.underlying22 hh with ⟨h0, _⟩ | ⟨ad, len, cp, m, q, D, Pl, h0, _, hl, hcm, hm, _, hx⟩
  · simp only [Value.cells, List.cons.injEq, Value.slice.injEq] at h0
    obtain ⟨⟨rfl, rfl, rfl⟩, _⟩ := h0
    exact ⟨Nat.zero_le _, [], rfl, fun i x hi => by simp at hi⟩
  · simp only [Value.cells, List.cons.injEq, Value.slice.injEq] at h0
    obtain ⟨⟨rfl, rfl, rfl⟩, _⟩ := h0
    have hC : Try.prog.cellsOf 30 = 6 := by kernel_rfl
    rw [hC] at hx
    have key : ∀ i, ∃ c : A, i < n → (∃ b o, some ad = some (⟨b, o, none⟩ : Addr) ∧ w.cell? ⟨b, o + i * 6, none⟩ = some (.int .i64 c.kd) ∧ w.cell? ⟨b, o + i * 6 + 1, none⟩ = some (.int .i64 c.f) ∧ w.cell? ⟨b, o + i * 6 + 2, none⟩ = some (.slice c.da c.s.size c.cap) ∧
        w.cell? ⟨b, o + i * 6 + 3, none⟩ = some (.int .i64 c.i) ∧ w.cell? ⟨b, o + i * 6 + 4, none⟩ = some (.int .i64 c.pos) ∧ w.cell? ⟨b, o + i * 6 + 5, none⟩ = some (.int .u8 (c.b.toNat : Int))) ∧ Bs w c.da c.s ∧ c.s.size ≤ maxLen := by
      intro i
      by_cases hi : i < n
      · have him : i < m := by rw [hm]; split <;> omega
        obtain ⟨b, o, spot⟩ := ad
        have hsp : spot = none := by
          obtain ⟨cs0, hc0, _⟩ := hx 0 (by omega)
          obtain ⟨_, hlen0, hat0⟩ := World.cells?_some hc0
          have h0 := hat0 0 (by omega)
          rw [List.getElem?_eq_getElem (by omega)] at h0
          have hs := World.cell?_spot h0
          simpa [Addr.add] using hs
        subst hsp
        obtain ⟨cs, hc, htr⟩ := hx i him
        obtain ⟨_, hlen, hat⟩ := World.cells?_some hc
        obtain ⟨c, rfl, hb, hn⟩ := act_cells htr
        have h0 := hat 0 (by omega)
        have h1 := hat 1 (by omega)
        have h2 := hat 2 (by omega)
        have h3 := hat 3 (by omega)
        have h4 := hat 4 (by omega)
        have h5 := hat 5 (by omega)
        rw [add_none, add_none] at h0 h1 h2 h3 h4 h5
        exact ⟨c, fun _ => ⟨⟨b, o, rfl, h0, h1, h2, h3, h4, h5⟩, hb, hn⟩⟩
      · exact ⟨⟨0, 0, none, 0, ⟨#[]⟩, 0, 0, 0⟩, fun h => absurd h hi⟩
    refine ⟨by omega, (List.range n).map fun i => Classical.choose (key i), by simp, fun i x hx => ?_⟩
    rw [List.getElem?_map, Option.map_eq_some_iff] at hx
    obtain ⟨j, hj, rfl⟩ := hx
    obtain ⟨hj1, hj2⟩ := List.getElem?_eq_some_iff.1 hj
    have : j = i := by simpa using hj2.symm
    subst this
    exact Classical.choose_spec (key j) (by simpa using hj1)
end
end Go.Proofs.Ythcagpgdekhaeaa
