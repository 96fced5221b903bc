/- An append of zeros to a slice of one's own: 'append(xs, make([]uint64, m)...)'. -/
import Derived.Test.YtbklepgbieohiaaE
import Derived.Lib.AppendZeros
namespace Go.Proofs.Ytbklepgbieohiaa
open Go.RowKit

theorem und3 : Try.prog.underlying 3 = some (.int .i64) := by kernel_rfl

theorem zeroCells_u64 (m : Nat) : Builtin.zeroCells #[Value.int .u64 0] m = u64s (List.replicate m 0) := by
  apply Array.ext'
  simp [Builtin.zeroCells, u64s, Nat.mod_one, List.map_const']

theorem run_app_zeros (w : World) (N : Nat) (v : Value) (L : List Nat) (ty : TypeId) (h0 : 0 < L.length) (hl : L.length ≤ 100000) (hown : Own w N v L) (hbase : N ≤ w.heap.size) (m : Nat) (hm : 0 < m) (hb : m ≤ 100000) :
    ∃ v' w', (Builtin.append_ #[53, 3] ty #[v, .int .i64 (m : Int)]).run Try.prog w = .ok v' w' ∧ Own w' N v' (L ++ List.replicate m 0) ∧ w.grownBy w' v.ownBlock := by
  obtain ⟨i, hi, hz, hs, hby⟩ := info_parts info22
  have hw : IntKind.i64.wrap (m : Int) = m := by rw [IntKind.wrap_i64]; omega
  have hneg : ¬ ((m : Int) < 0) := by omega
  have h48i : ¬ (281474976710656 < (m : Int) * (i.bytes : Int)) := by rw [hby]; omega
  rcases hown.2 with ⟨h1, h2⟩ | ⟨g, cap, cur, rfl, hbg, hg, hnc, hcm, hcs, htake⟩
  · omega
  · have hlen : (L ++ List.replicate m 0).length = L.length + m := by simp
    by_cases hroom : L.length + m ≤ cap
    · have hst := run_storeCells_at Try.prog g L.length 22 (u64s (List.replicate m 0)).toList 0 cur w hg (by simp [u64s]; omega) (by intro u hu; simp [u64s] at hu; rw [hu.2]; rfl)
      simp only [Nat.add_zero] at hst
      have hadd : (⟨g, 0, none⟩ : Addr).add L.length = ⟨g, L.length, none⟩ := by unfold Addr.add; split <;> simp_all
      refine ⟨.slice (some ⟨g, 0, none⟩) (L.length + m) cap, w.setRow g (cur.toList.take L.length ++ (u64s (List.replicate m 0)).toList ++ cur.toList.drop (L.length + (u64s (List.replicate m 0)).toList.length)).toArray, ?_, ?_, ?_⟩
      · simp only [Builtin.append_]
        simp [run_underlying und53, run_underlying und3, sizeOf, typeInfo, zeroValue, hi, hz, asInt, asIntOf, hw, hneg, h48i, hroom, hs, Value.cells, zeroCells_u64, hadd, hst, show ¬ m = 0 by omega]
      · unfold Own
        rw [hlen]
        refine ⟨by simp, Or.inr ⟨g, cap, _, rfl, hbg, setRow_heap w g cur _ 22 _ hg, hroom, hcm, ?_, ?_⟩⟩
        · simp [u64s]; omega
        · rw [Nat.mul_one] at htake ⊢
          rw [htake]
          simp only [u64s, List.toList_toArray]
          rw [List.take_left']
          · rw [List.map_append]
          · simp
      · exact ⟨rfl, rfl, rfl, by simp, fun k _ hk => setRow_other w g k _ (fun e => hk (by simp [Value.ownBlock, e]))⟩
    · have holds : ∀ j u, (L.map fun n => Value.int .u64 ((n : Nat) : Int))[j]? = some u → w.cell? ((⟨g, 0, none⟩ : Addr).add j) = some u := World.ownsRow.cells hown (g := g) rfl
      have hfo := run_firstCells_some (P := Try.prog) w.drew 1 L.length ⟨g, 0, none⟩ L.length cap (L.map fun n => Value.int .u64 ((n : Nat) : Int)) (by simp) (by simpa using holds)
      have hgr := growslice_fits (need := L.length + m) (old := cap) (bytes := 8) (by omega) (by omega)
      have h48' : ¬ (281474976710656 < Builtin.nextslicecap (L.length + m) cap * i.bytes) := by rw [hby]; omega
      have h63' : ¬ (9223372036854775807 < ((L.length : Int) + (m : Int))) := by omega
      refine ⟨.slice (some ⟨w.heap.size, 0, none⟩) (L.length + m) (grownCap w (L.length + m) cap 22), w.drew.alloc (.cells ((L.map fun n => Value.int .u64 ((n : Nat) : Int)).toArray ++ u64s (List.replicate m 0) ++ Builtin.zeroCells #[Value.int .u64 0] (grownCap w (L.length + m) cap 22 - (L.length + m))) 22), ?_, ?_, ?_⟩
      · simp only [Builtin.append_]
        simp [run_underlying und53, run_underlying und3, sizeOf, typeInfo, zeroValue, hi, hz, asInt, asIntOf, hw, hneg, h48i, hroom, hs, Value.cells, zeroCells_u64, hfo, h48', h63', show ¬ m = 0 by omega, Question.forced, newRow, grownCap]
      · unfold Own
        rw [hlen]
        refine ⟨by simp, Or.inr ⟨w.heap.size, _, _, rfl, hbase, heap_alloc_new w.drew _, grownCap_ge _ _ _ _, grownCap_le_maxLen _ _ _ _ (by unfold maxLen; omega), ?_, ?_⟩⟩
        · have := grownCap_ge w (L.length + m) cap 22
          simp [u64s, size_zeroCells]; omega
        · rw [Nat.mul_one]
          simp only [Array.toList_append, u64s]
          rw [List.take_left']
          · rw [List.map_append]
          · simp
      · exact ⟨rfl, rfl, rfl, by simp, fun k hk _ => Below.heap_alloc w.drew _ k hk⟩

/-- What the halves of digits come to, with zeros behind. -/
theorem half2_digs {x : Nat} (hx : x < B ^ 4) : (List.range 8).map (half2 (halves (digs 4 x) ++ List.replicate 8 0)) = digs 8 x := by
  rw [digs8_of_lt hx]
  have h : ∀ y, y < B → uadd (um y 4294967296) (umul (ud y 4294967296) 4294967296) = y := by
    intro y hy
    unfold uadd umul um ud
    unfold B at *
    omega
  have hd := digs_dig 4 x
  have e := list4 (digs_length 4 x)
  have h0 := hd.get 0; have h1 := hd.get 1; have h2 := hd.get 2; have h3 := hd.get 3
  rw [e]
  generalize nth (digs 4 x) 0 = a at *
  generalize nth (digs 4 x) 1 = b at *
  generalize nth (digs 4 x) 2 = c at *
  generalize nth (digs 4 x) 3 = d at *
  show [uadd (um a 4294967296) (umul (ud a 4294967296) 4294967296), uadd (um b 4294967296) (umul (ud b 4294967296) 4294967296), uadd (um c 4294967296) (umul (ud c 4294967296) 4294967296), uadd (um d 4294967296) (umul (ud d 4294967296) 4294967296), uadd 0 (umul 0 4294967296), uadd 0 (umul 0 4294967296), uadd 0 (umul 0 4294967296), uadd 0 (umul 0 4294967296)] = _
  rw [h a h0, h b h1, h c h2, h d h3]
  rfl

set_option maxHeartbeats 400000 in
theorem rwiden_core (X Z : List Nat) (hlx : X.length = 4) (hdx : Dig X) (hz : Hid ((List.range 8).map (half2 (halves X ++ List.replicate 8 0)) = Z)) (hlz : Z.length = 8) (w : World) :
    Calls Try.prog 28 #[.agg (u64s X)] w fun e w' => e = .returned (.agg (u64s Z)) ∧ Below w.heap.size w w' := by
  have hX := Lib.hid (((Has.new w (u64s X) 24).alloc (.cells (u64s [0, 0, 0, 0, 0, 0, 0, 0]) 37)).seg)
  have hZ := Lib.hid (Has.newAt (w := w.alloc (.cells (u64s X) 24)) (u64s [0, 0, 0, 0, 0, 0, 0, 0]) 37 (n := w.heap.size + 1) (by simp))
  have hb0 := Lib.hid ((((Below.refl w.heap.size w).alloc (Nat.le_refl _) (.cells (u64s X) 24)).alloc (by simp) (.cells (u64s [0, 0, 0, 0, 0, 0, 0, 0]) 37)))
  go_enter Try.func28, Try.ntmps28
  go_wp2_with fail
  refine (digits_any X _ _ _ _ hlx (by omega) (by omega) hdx _ hX.out (by simp; omega)).mono ?_
  rintro e w1 ⟨v, rfl, ho, hb⟩
  have hhl := halves_length X
  have hb1 := bcall hb0.out hb (by simp; omega)
  have hZ1 := hZ.out.below hb (by simp)
  obtain ⟨v2, w2, hr, ho2, hg2⟩ := run_app_zeros w1 _ v (halves X) 53 (by omega) (by omega) ho hb.size 8 (by omega) (by omega)
  have hb2 := Lib.hid (hb1.grown hg2 (Nat.le_trans (by simp; omega) hb.size) (fun k hk => by have := (ho.lt k hk).1; simp at this; omega))
  have hZ2 := Lib.hid (hZ1.grown hg2 (ho.ne (by simp)))
  have HR := Lib.hid hr
  have h16 := Lib.hid (show (halves X ++ List.replicate 8 0).length = 16 by simp [hhl, hlx])
  rcases ho2.form with ⟨_, h2⟩ | ⟨g, c, rfl, hg1, hg3, hgc, _, hs2, _⟩
  · have h3 := h16.out; rw [h2] at h3; simp at h3
  rw [h16.out] at hgc HR
  have HS := Lib.hid hs2
  clear ho2 hr hs2 hZ1 ho hb hhl
  go_wp2_with (refine Lib.wpList_append_run _ rfl _ _ _ _ rfl _ _ rfl rfl _ _ HR.out ?_)
  refine (wide_any (halves X ++ List.replicate 8 0) g 0 16 c h16.out hgc (by omega) (by omega) _ HS.out hg3).mono ?_
  rintro e w3 ⟨rfl, hb3⟩
  have hZ3 := Lib.hid (hZ2.out.below hb3 hZ2.out.lt)
  rw [hz.out]
  go_wp2_with (refine store8 rfl _ _ rfl (w.heap.size + 1) rfl Z rfl 37 _ hZ3.out hlz rfl ?_; intro w4 hw4 ho4)
  exact bodyPost_ret (res8 rfl rfl hw4 hlz) rfl ⟨rfl, ho4.below (bcall hb2.out hb3 hb2.out.size) (by omega)⟩

theorem rwiden_any (x : Nat) (hx : x < B ^ 4) (w : World) :
    Calls Try.prog 28 #[A4 x] w fun e w' => e = .returned (A8 x) ∧ Below w.heap.size w w' :=
  rwiden_core _ _ (digs_length 4 x) (digs_dig 4 x) (half2_digs hx) (digs_length 8 x) w

end Go.Proofs.Ytbklepgbieohiaa
