/- The walk of wire.Read. -/
import Derived.Test.YtbmhmaejakjieaaDoorFa
namespace Go.Proofs.YtbmhmaejakjieaaDoor
open Go.RowKit

def toF (p : Nat × List Nat) : Fld := ((p.1 : Int), p.2)
def lenV : Value → Nat
  | .slice _ n _ => n
  | _ => 0

/-- Bytes that may be cut, or none at all. -/
def Rd (w : World) (v : Value) (L : List Nat) : Prop := (∃ a c, v = .slice a L.length c) ∧ (L = [] ∨ Sl w w.heap.size v L)

theorem readF_le {f t g : Nat} {r : List Nat} (h : g ≤ t) : readF f t (g :: r) = none := by
  match f, r with
  | 0, _ => rfl
  | f + 1, [] => rfl
  | f + 1, [_] => rfl
  | f + 1, x :: y :: r => simp only [readF, if_pos h]

theorem readF_short {f t g : Nat} {r : List Nat} (h : r.length < 2) : readF f t (g :: r) = none := by
  match f, r with
  | 0, _ => rfl
  | f + 1, [] => rfl
  | f + 1, [_] => rfl
  | f + 1, x :: y :: r => simp only [List.length_cons] at h; omega

theorem readF_over {f t g x y : Nat} {r : List Nat} (h : r.length < x * 256 + y) : readF f t (g :: x :: y :: r) = none := by
  match f with
  | 0 => rfl
  | f + 1 => simp only [readF, if_pos h]; split <;> rfl

theorem readF_next {f t g x y : Nat} {r : List Nat} (h : ¬ g ≤ t) (h2 : x * 256 + y ≤ r.length) :
    readF (f + 1) t (g :: x :: y :: r) = (readF f g (r.drop (x * 256 + y))).map ((g, r.take (x * 256 + y)) :: ·) := by
  simp only [readF, if_neg h, if_neg (show ¬ r.length < x * 256 + y by omega)]

theorem OwnB.le {w : World} {N M : Nat} {v : Value} {L : List Nat} (h : OwnB w M v L) (hN : N ≤ M) : OwnB w N v L := by
  refine ⟨h.1, ?_⟩
  rcases h.2 with h | ⟨g, cap, cur, h1, h2, h3⟩
  · exact Or.inl h
  · exact Or.inr ⟨g, cap, cur, h1, Nat.le_trans hN h2, h3⟩

theorem OwnB.formA {w : World} {N : Nat} {v : Value} {L : List Nat} (h : OwnB w N v L) : ∃ a n c, v = .slice a n c := by
  rcases h.2 with ⟨h, _⟩ | ⟨g, cap, cur, h1, h2, h3⟩
  · exact ⟨_, _, _, h⟩
  · exact ⟨_, _, _, h1⟩

theorem OwnF.alloc {w : World} {N : Nat} {v : Value} {l : List Fld} (h : OwnF w N v l) (o : Obj) : OwnF (w.alloc o) N v l := h.below ((Below.refl _ w).alloc (Nat.le_refl _) o)

/-- A block of fields is none of bytes. -/
theorem hne_54 {w : World} {g : Nat} {cs : Array Value} {M : Nat} {u : Value} {L : List Nat} (h : Has w g 54 cs) (h2 : OwnB w M u L) : u.ownBlock = none ∨ u.ownBlock ≠ some g := by
  rcases h2.2 with ⟨rfl, _⟩ | ⟨g2, cap2, cur2, rfl, _, hg2, _⟩
  · exact Or.inl rfl
  · right
    simp only [Value.ownBlock, ne_eq, Option.some.injEq]
    intro e
    subst e
    unfold Has at h
    rw [h] at hg2
    simp at hg2

theorem Sl.back {w w' : World} {N : Nat} {v : Value} {L : List Nat} (h : Sl w' N v L) (hb : Below N w w') : Sl w N v L := by
  obtain ⟨b, off, c, rfl, h1, h2, h3⟩ := h
  refine ⟨b, off, c, rfl, h1, h2, fun j hj => ?_⟩
  rw [← hb.cell (p := ⟨b, off + j, none⟩) h2]
  exact h3 j hj

section
variable {w : World} {g : Nat} {x y u : Value}
theorem Has.cell0 (h : Has w g 54 #[x, y]) : w.cell? ⟨g, 0, none⟩ = some x := by unfold Has at h; simp [World.cell?, h]
theorem Has.cell1 (h : Has w g 54 #[x, y]) : w.cell? ⟨g, 1, none⟩ = some y := by unfold Has at h; simp [World.cell?, h]
theorem Has.set1 (h : Has w g 54 #[x, y]) : Has (w.setCell ⟨g, 1, none⟩ u) g 54 #[x, u] := by
  unfold Has at *
  exact heap_setCell_same w g 1 _ 54 _ h
theorem Has.set1_0 (h : Has w g 54 #[x, y]) : (w.setCell ⟨g, 1, none⟩ u).cell? ⟨g, 0, none⟩ = some x := h.set1.cell0
theorem Has.set1_1 (h : Has w g 54 #[x, y]) : (w.setCell ⟨g, 1, none⟩ u).cell? ⟨g, 1, none⟩ = some u := h.set1.cell1
end

set_option maxHeartbeats 2000000 in
set_option maxRecDepth 100000 in
theorem read_any (L : List Nat) (hL : Byt L) (hlen : L.length ≤ 4096) (w : World) (v : Value) (hv : Rd w v L)
    (hnum : readF L.length 0 L = none → ∀ w' u, Below w.heap.size w w' → FaultV w' w.heap.size u 80 → Calls Tryd.prog 33 #[u] w' fun e w'' => e = .returned (.int .i64 80) ∧ Below w'.heap.size w' w'') :
    Calls Tryd.prog 13 #[v] w fun e w' => ∃ v' n, e = .returned (.tuple #[v', .int .i64 n]) ∧ Below w.heap.size w w' ∧
      ((∃ l, readF L.length 0 L = some l ∧ n = 0 ∧ OwnF w' w.heap.size v' (l.map toF)) ∨ (readF L.length 0 L = none ∧ n = 80 ∧ v' = .slice none 0 0)) := by
  obtain ⟨⟨a, c, rfl⟩, hr⟩ := hv
  have HR := Lib.hid hr; have HN := Lib.hid hnum; have HL := Lib.hid hL; have Hlen := Lib.hid hlen
  have hd : decide ((4096 : Int) < (L.length : Int)) = false := by simp; omega
  clear hr hnum hL hlen
  go_enter Tryd.func13, Tryd.ntmps13
  go_wp2
  go_loopw [0, 4, 5] (fun b l last wr => ∃ (f t : Nat) (r : List Nat) (D : List (Nat × List Nat)) (a : Option Addr) (c : Nat), r.length ≤ f ∧ t < 256 ∧ Byt r ∧ b = .slice a r.length c ∧
      (r = [] ∨ Sl w w.heap.size (.slice a r.length c) r) ∧ last = .int .i64 t ∧ readF L.length 0 L = (readF f t r).map (D ++ ·) ∧ OwnF wr w.heap.size l (D.map toF) ∧ Below w.heap.size w wr ∧ D.length + r.length ≤ 4096)
    (fun b _ _ _ => lenV b)
  case atStart => exact ⟨L.length, 0, L, [], a, c, Nat.le_refl _, by omega, HL.out, rfl, HR.out, rfl, by cases readF L.length 0 L <;> simp, OwnF.nil _ _, Below.refl _ _, by simpa using Hlen.out⟩
  case round =>
    obtain ⟨f, t, r, D, a, c, hf, ht, hb, rfl, hsl, rfl, hE, hown, hbel, hDl⟩ := hrel
    have HE := Lib.hid hE; have HO := Lib.hid hown; have Hb := Lib.hid hbel; have HD := Lib.hid hDl; have HB := Lib.hid hb; have Hf := Lib.hid hf
    clear hE hown hbel hDl hb hf
    match r, hsl with
    | [], _ =>
      have hd : decide ((0 : Int) < 0) = false := by simp
      simp only [List.length_nil]
      go_wp2
      refine bodyPost_ret (results_tmp2 rfl _ _ _) rfl ⟨_, _, rfl, Hb.out, Or.inl ⟨D, ?_, rfl, HO.out⟩⟩
      rw [HE.out]
      cases f <;> simp [readF]
    | g :: r1, hsl =>
      have hsl : Sl w w.heap.size (.slice a (g :: r1).length c) (g :: r1) := by
        rcases hsl with h | h
        · simp at h
        · exact h
      obtain ⟨b, off, c2, he, hc, hbl, hs⟩ := hsl
      simp only [Value.slice.injEq] at he
      obtain ⟨rfl, _, rfl⟩ := he
      have hg : g < 256 := HB.out g (by simp)
      have c0 : wr.cell? ⟨b, off, none⟩ = some (.int .u8 ((g : Nat) : Int)) := by
        rw [Hb.out.cell (p := ⟨b, off, none⟩) hbl]
        simpa [nth] using hs 0 (by simp)
      obtain ⟨q, hq⟩ : ∃ q, (g :: r1).length = q := ⟨_, rfl⟩
      have HSl : Hid (Sl wr w.heap.size (.slice (some ⟨b, off, none⟩) q c) (g :: r1)) := Lib.hid ⟨b, off, c, by rw [hq], hc, hbl, hs.below Hb.out hbl⟩
      rw [hq]
      have hq0 : (0 : Int) < (q : Int) := by simp at hq; omega
      have hd0 : decide (0 < q) = true := by simp at hq ⊢; omega
      have hgi : (g : Int) < 256 := by omega
      clear hs
      by_cases hgt : g ≤ t
      · have hd1 : decide (g ≤ t) = true := by simp [hgt]
        have HG := Lib.hid hgt
        clear hgt
        go_wp2
        refine bodyPost_ret (results_tmp2 rfl _ _ _) rfl ⟨_, _, rfl, Hb.out.alloc Hb.out.size _, Or.inr ⟨?_, rfl, rfl⟩⟩
        rw [HE.out, readF_le HG.out]; rfl
      · have hd1 : decide (g ≤ t) = false := by simp only [decide_eq_false_iff_not]; exact hgt
        have HG := Lib.hid hgt
        clear hgt
        obtain ⟨al, cl, hform⟩ := HO.out.form
        rw [List.length_map] at hform
        subst hform
        have hB1 : Below wr.heap.size wr (wr.alloc (.cells #[.int .i64 g, .slice none 0 0] 54)) := (Below.refl _ wr).alloc (Nat.le_refl _) _
        have hBw : Below w.heap.size w (wr.alloc (.cells #[.int .i64 g, .slice none 0 0] 54)) := Hb.out.alloc Hb.out.size _
        have HSl1 : Hid (Sl (wr.alloc (.cells #[.int .i64 g, .slice none 0 0] 54)) w.heap.size (.slice (some ⟨b, off, none⟩) q c) (g :: r1)) := Lib.hid (HSl.out.below hB1 Hb.out.size)
        have hcut : ∀ v' at_, Sl (wr.alloc (.cells #[.int .i64 g, .slice none 0 0] 54)) w.heap.size v' r1 → Calls Tryd.prog 34 #[v', .int .i64 at_] (wr.alloc (.cells #[.int .i64 g, .slice none 0 0] 54)) _ := fun v' at_ hv =>
          cut_any r1 (fun x hx => HB.out x (by simp [hx])) (by have := HD.out; simp at this; omega) at_ (wr.alloc (.cells #[.int .i64 g, .slice none 0 0] 54)) w.heap.size hBw.size v' hv
        have HB1 := Lib.hid hB1; have HBw := Lib.hid hBw
        clear hB1 hBw
        by_cases hgood : ∃ x y r', r1 = x :: y :: r' ∧ x * 256 + y ≤ r'.length
        · obtain ⟨x, y, r', rfl, hm⟩ := hgood
          have hcut2 : ∀ v' at_, Sl (wr.alloc (.cells #[.int .i64 g, .slice none 0 0] 54)) w.heap.size v' (x :: y :: r') → Calls Tryd.prog 34 #[v', .int .i64 at_] (wr.alloc (.cells #[.int .i64 g, .slice none 0 0] 54)) fun e w' => ∃ p q, e = .returned (.tuple #[p, q, .nilIface]) ∧ Below (wr.heap.size + 1) (wr.alloc (.cells #[.int .i64 g, .slice none 0 0] 54)) w' ∧
              OwnB w' w.heap.size p (r'.take (x * 256 + y)) ∧ Sl w' w.heap.size q (r'.drop (x * 256 + y)) := by
            intro v' at_ hv
            refine (hcut v' at_ hv).mono ?_
            rintro e w' ⟨p, q, E, rfl, hb3, h3⟩
            have hsz : (wr.alloc (.cells #[.int .i64 g, .slice none 0 0] 54)).heap.size = wr.heap.size + 1 := by simp
            rcases h3 with ⟨x2, y2, r2, h4, h5, rfl, h6, h7⟩ | ⟨h4, _⟩
            · simp only [List.cons.injEq] at h4
              obtain ⟨rfl, rfl, rfl⟩ := h4
              exact ⟨p, q, rfl, by rw [← hsz]; exact hb3, h6.le HBw.out.size, h7⟩
            · rcases h4 with h4 | ⟨x2, y2, r2, h4, h5⟩
              · simp only [List.length_cons] at h4; omega
              · simp only [List.cons.injEq] at h4
                obtain ⟨rfl, rfl, rfl⟩ := h4
                omega
          have HC := Lib.hid hcut2; have HM := Lib.hid hm
          clear hcut hcut2 hm
          generalize hM : r'.take (x * 256 + y) = M at *
          generalize hT : r'.drop (x * 256 + y) = T at *
          go_wp2_with (first
            | (refine stepLo rfl _ _ rfl w.heap.size (.slice (some ⟨b, off, none⟩) q c) (g :: x :: y :: r') .i64 1 rfl rfl HSl1.out (by simp) ?_; intro v1 hv1; have HV1 := Lib.hid hv1; clear hv1)
            | (go_at_call 34; refine (HC.out _ _ HV1.out).mono ?_; rintro e w3 ⟨p3, q3, rfl, hb3, ho3, hq3⟩
               have hO3 : OwnF w3 w.heap.size _ _ := (HO.out.below HB1.out).below (show Below _ _ _ by simpa using hb3)
               have hH3 : Has w3 wr.heap.size 54 #[.int .i64 g, .slice none 0 0] := (Has.newAt _ 54 rfl).below hb3 (by omega)
               obtain ⟨a3, n3, c3, rfl⟩ := ho3.formA
               have hc30 := hH3.cell0; have hc31 := hH3.cell1; have hf31 := hH3.free 1; have hd30 := hH3.set1_0 (u := .slice a3 n3 c3); have hd31 := hH3.set1_1 (u := .slice a3 n3 c3)
               have hbs : Below (wr.heap.size) wr (w3.setCell ⟨wr.heap.size, 1, none⟩ (.slice a3 n3 c3)) :=
                 (HB1.out.trans (hb3.mono (by omega))).setCell (Nat.le_refl _) _
               have hP : OwnB (w3.setCell ⟨wr.heap.size, 1, none⟩ (.slice a3 n3 c3)) w.heap.size (.slice a3 n3 c3) M := ho3.grown ⟨rfl, rfl, rfl, by simp, fun k _ hk => heap_setCell_other w3 ⟨wr.heap.size, 1, none⟩ k _ (fun e => hk (by simp [e]))⟩ (hne_54 hH3 ho3)
               have HBS := Lib.hid hbs; have HP := Lib.hid hP; have HO2 := Lib.hid (HO.out.below hbs); have HQ := Lib.hid (hq3.back (HBw.out.trans (hb3.mono (by have := Hb.out.size; omega))))
               clear hb3 ho3 hq3 hO3 hH3 hbs hP)
            | (refine appF rfl _ _ rfl w.heap.size _ (.slice a3 n3 c3) (D.map toF) (g : Int) M _ 1 rfl rfl (HO2.out.alloc _) (Has.newAt _ 54 (by simp)) (HP.out.alloc _) ?_ ?_ ?_
               · have := HD.out; simp only [List.length_map]; omega
               · have := Hb.out.size; have := HBS.out.size; simp at this ⊢; omega
               intro v5 w5 ho5 hg5
               have hb5 : Below w.heap.size w w5 := Below.grown ((Hb.out.trans (HBS.out.mono Hb.out.size)).alloc (Nat.le_trans Hb.out.size HBS.out.size) _) hg5 (by have := Hb.out.size; have := HBS.out.size; simp at this ⊢; omega) (fun k hk => (HO2.out.lt k hk).1)
               have HO5 := Lib.hid ho5; have HB5 := Lib.hid hb5
               clear ho5 hg5 hb5))
          have hlr : (g :: x :: y :: r').length = r'.length + 3 := rfl
          have HSq := Lib.hid HQ.out
          obtain ⟨b5, off5, c5, rfl, hc5, hb5, hs5⟩ := HQ.out
          have hTl : T.length + (x * 256 + y) = r'.length := by rw [← hT, List.length_drop]; have := HM.out; omega
          match f, Hf.out, HE.out with
          | 0, hf0, _ => simp at hf0
          | f + 1, hf0, hE0 =>
            rw [readF_next HG.out HM.out, hT, hM] at hE0
            refine ⟨⟨f, g, T, D ++ [(g, M)], _, c5, ?_, hg, ?_, rfl, Or.inr HSq.out, rfl, ?_, ?_, HB5.out, ?_⟩, ?_⟩
            · rw [hlr] at hf0; omega
            · intro z hz
              rw [← hT] at hz
              exact HB.out z (by have := List.mem_of_mem_drop hz; simp [this])
            · rw [hE0, Option.map_map]
              congr 1
              funext z
              simp
            · have := HO5.out
              rw [List.map_append]
              exact this
            · have := HD.out
              rw [hlr] at this
              rw [List.length_append]
              simp only [List.length_cons, List.length_nil]
              omega
            · simp only [lenV]
              rw [hlr] at hq
              omega
        · have hcut2 : ∀ v' at_, Sl (wr.alloc (.cells #[.int .i64 g, .slice none 0 0] 54)) w.heap.size v' r1 → Calls Tryd.prog 34 #[v', .int .i64 at_] (wr.alloc (.cells #[.int .i64 g, .slice none 0 0] 54)) fun e w' => ∃ p q g1 a1, e = .returned (.tuple #[p, q, .iface 63 (.pointer (some ⟨g1, 0, none⟩))]) ∧ Below w.heap.size w w' ∧ FaultV w' w.heap.size (.iface 63 (.pointer (some ⟨g1, 0, none⟩))) 80 ∧ a1 = 0 := by
            intro v' at_ hv
            refine (hcut v' at_ hv).mono ?_
            rintro e w' ⟨p, q, E, rfl, hb3, h3⟩
            rcases h3 with ⟨x, y, r', h4, h5, _⟩ | ⟨_, g1, a1, h4, h5, h6⟩
            · exact absurd ⟨x, y, r', h4, h5⟩ hgood
            · subst h4
              exact ⟨p, q, g1, 0, rfl, bcall HBw.out hb3 HBw.out.size, ⟨g1, a1, rfl, Nat.le_trans HBw.out.size h5, h6⟩, rfl⟩
          have hnone : readF L.length 0 L = none := by
            rw [HE.out]
            match r1 with
            | [] => rw [readF_short (by simp)]; rfl
            | [_] => rw [readF_short (by simp)]; rfl
            | x :: y :: r' =>
              rw [readF_over (by
                apply Nat.lt_of_not_le
                intro h
                exact hgood ⟨x, y, r', rfl, h⟩)]; rfl
          have HC := Lib.hid hcut2; have HX := Lib.hid hnone
          clear hcut hcut2 hgood hnone
          go_wp2_with (first
            | (refine stepLo rfl _ _ rfl w.heap.size (.slice (some ⟨b, off, none⟩) q c) (g :: r1) .i64 1 rfl rfl HSl1.out (by simp) ?_; intro v1 hv1; have HV1 := Lib.hid hv1; clear hv1)
            | (go_at_call 34; refine (HC.out _ _ HV1.out).mono ?_; rintro e w3 ⟨p3, q3, g3, a3, rfl, hb3, hf3, _⟩; have HB3 := Lib.hid hb3; have HF3 := Lib.hid hf3; clear hb3 hf3)
            | (go_at_call 33; refine (HN.out HX.out _ _ HB3.out HF3.out).mono ?_; rintro e w4 ⟨rfl, hb4⟩; have HB4 := Lib.hid (bcall HB3.out hb4 HB3.out.size); clear hb4))
          exact bodyPost_ret (results_tmp2 rfl _ _ _) rfl ⟨_, _, rfl, HB4.out, Or.inr ⟨HX.out, rfl, rfl⟩⟩
end Go.Proofs.YtbmhmaejakjieaaDoor
