/- wire.Put and wire.Read whatever comes in. -/
import Derived.Test.YtbmhmaejakjieaaDoorAb
import Derived.Test.YtbmhmaejakjieaaDoorWb
namespace Go.Proofs.YtbmhmaejakjieaaDoor
open Go.RowKit

/-- What Put answers: the number. -/
def putC (l : List Fld) (n : Int) : Prop :=
  (n = 0 ∧ okF l) ∨ (n = 3 ∧ (256 < l.length ∨ (l.length ≤ 256 ∧ (∀ j, j < l.length → goodAt (tagF l) (lenF l) j) ∧ 4096 < sumL (lenF l) l.length))) ∨
  (n = 80 ∧ l.length ≤ 256 ∧ ∃ j, j < l.length ∧ ¬ goodAt (tagF l) (lenF l) j)

theorem putC_one {l : List Fld} {n m : Int} (h : putC l n) (h2 : putC l m) : n = m := by
  rcases h with ⟨rfl, h1, h3, h4⟩ | ⟨rfl, h1 | ⟨h1, h3, h4⟩⟩ | ⟨rfl, h1, j, h3, h4⟩ <;>
  rcases h2 with ⟨rfl, k1, k3, k4⟩ | ⟨rfl, k1 | ⟨k1, k3, k4⟩⟩ | ⟨rfl, k1, i, k3, k4⟩ <;>
  first | rfl | omega | exact absurd (h3 i k3) k4 | exact absurd (k3 j h3) h4

theorem putC_ok {l : List Fld} (h : putC l 0) : okF l := by
  rcases h with ⟨_, h⟩ | ⟨h, _⟩ | ⟨h, _⟩
  · exact h
  · omega
  · omega

set_option maxHeartbeats 1000000 in
set_option maxRecDepth 100000 in
theorem put_fail (l : List Fld) (v : Value) (w : World) (hh : Hnd w)
    (hck : Calls Tryd.prog 32 #[v] w fun e w' => ∃ g n, e = .returned (.iface 63 (.pointer (some ⟨g, 0, none⟩))) ∧ Below w.heap.size w w' ∧ FaultV w' w.heap.size (.iface 63 (.pointer (some ⟨g, 0, none⟩))) n ∧ putC l n ∧ n ≠ 0) :
    Calls Tryd.prog 12 #[v] w fun e w' => ∃ v' n, e = .returned (.tuple #[v', .int .i64 n]) ∧ Below w.heap.size w w' ∧ putC l n ∧ ((n = 0 ∧ OwnB w' w.heap.size v' (flI l)) ∨ (n ≠ 0 ∧ v' = .slice none 0 0)) := by
  have HC := Lib.hid hck; have HH := Lib.hid hh
  clear hck hh
  go_enter Tryd.func12, Tryd.ntmps12
  go_wp2_with (first
    | (go_at_call 32; refine HC.out.mono ?_; rintro e w1 ⟨g, n, rfl, hb1, hf1, hp1, hn1⟩; have HB1 := Lib.hid hb1; have HF1 := Lib.hid hf1; have HP1 := Lib.hid hp1; have HN1 := Lib.hid hn1; clear hb1 hf1 hp1 hn1)
    | (go_at_call 33; refine (number_any _ _ n _ (HH.out.below HB1.out HH.out.lt) HF1.out).mono ?_; rintro e w2 ⟨rfl, hb2⟩; have HB2 := Lib.hid (bcall HB1.out hb2 HB1.out.size); clear hb2))
  exact bodyPost_ret (results_tmp2 rfl _ _ _) rfl ⟨_, n, rfl, HB2.out, HP1.out, Or.inr ⟨HN1.out, rfl⟩⟩

theorem put_any (l : List Fld) (w : World) (v : Value) (hh : Hnd w) (hv : FV w v l) :
    Calls Tryd.prog 12 #[v] w fun e w' => ∃ v' n, e = .returned (.tuple #[v', .int .i64 n]) ∧ Below w.heap.size w w' ∧ putC l n ∧ ((n = 0 ∧ OwnB w' w.heap.size v' (flI l)) ∨ (n ≠ 0 ∧ v' = .slice none 0 0)) := by
  by_cases hok : okF l
  · refine (put_good l hok w v hv).mono ?_
    rintro e w' ⟨v', rfl, hb, ho⟩
    exact ⟨v', 0, rfl, hb, Or.inl ⟨rfl, hok⟩, Or.inl ⟨rfl, ho⟩⟩
  · rcases hv with ⟨rfl, rfl⟩ | ⟨b, off, c, rfl, hb, hs⟩
    · exact absurd ⟨by simp, fun j hj => by simp at hj, by simp [sumL]⟩ hok
    · refine put_fail l _ w hh ?_
      refine (check_any b off l.length c w (tagF l) (fun j => (w.cell? ⟨b, off + j * 2 + 1, none⟩).getD .nilIface) (lenF l) (fun j hj => (hs j hj).1) (fun j hj => by
        obtain ⟨_, u, h2, h3⟩ := hs j hj
        rcases h3 with ⟨rfl, h4⟩ | ⟨b2, o2, c2, rfl, h5⟩
        · exact ⟨none, 0, by simp [h2, lenF, h4], by simp [h2]⟩
        · exact ⟨some ⟨b2, o2, none⟩, c2, by simp [h2, lenF], by simp [h2]⟩) hb).mono ?_
      rintro e w' ⟨u, rfl, h1, h2⟩
      rcases h2 with ⟨rfl, h3⟩ | ⟨hf, h3⟩ | ⟨hf, h3⟩
      · exact absurd h3 hok
      · obtain ⟨g, at_, rfl, h4⟩ := hf
        exact ⟨g, 3, rfl, h1, ⟨g, at_, rfl, h4⟩, Or.inr (Or.inl ⟨rfl, h3⟩), by decide⟩
      · obtain ⟨g, at_, rfl, h4⟩ := hf
        exact ⟨g, 80, rfl, h1, ⟨g, at_, rfl, h4⟩, Or.inr (Or.inr ⟨rfl, h3⟩), by decide⟩

/-- wire.Read of bytes that are not too many. -/
theorem read_all (L : List Nat) (hL : Byt L) (hlen : L.length ≤ 4096) (w : World) (v : Value) (hh : Hnd w) (hv : Rd w v L) :
    Calls Tryd.prog 13 #[v] w fun e w' => ∃ v' n, e = .returned (.tuple #[v', .int .i64 n]) ∧ Below w.heap.size w w' ∧
      ((∃ l, readF L.length 0 L = some l ∧ n = 0 ∧ OwnF w' w.heap.size v' (l.map toF)) ∨ (readF L.length 0 L = none ∧ n = 80 ∧ v' = .slice none 0 0)) :=
  read_any L hL hlen w v hv fun _ w' u hb hf => number_any _ u 80 w' (hh.below hb hh.lt) hf

/-- .. and of too many. -/
theorem read_long (a : Option Addr) (n c : Nat) (hn : 4096 < n) (w : World) :
    Calls Tryd.prog 13 #[.slice a n c] w fun e w' => e = .returned (.tuple #[.slice none 0 0, .int .i64 3]) ∧ w = w' := by
  have hd : decide ((4096 : Int) < (n : Int)) = true := by simp; omega
  clear hn
  go_enter Tryd.func13, Tryd.ntmps13
  go_wp2
  exact bodyPost_ret (results_tmp2 rfl _ _ _) rfl ⟨rfl, rfl⟩
end Go.Proofs.YtbmhmaejakjieaaDoor
