/- Keys' states that were told are written over, and grown (spoilKeys). -/
import Derived.Test.YtaechgnjdjijkaaBacks
import Derived.Test.YtaechgnjdjijkaaLends
namespace Go.Proofs.Ytaechgnjdjijkaa
open Go.RowKit Go.Lib

/-- Is it the row's own block? -/
def Ob (v : Value) (r : Nat) : Prop := v.ownBlock = some r
/-- The windows' rows lie apart. -/
def Apt (l : List Km) : Prop := ∀ (i j : Nat) (x y : Km), i < j → l[i]? = some x → l[j]? = some y → ∀ r, x.win.ownBlock = some r → y.win.ownBlock ≠ some r
theorem Only.cell {X : Nat → Prop} {w w' : World} (h : Only X w w') (p : Addr) (u : Value) (hp : X p.block) : Only X w (w'.setCell p u) := h.then (Only.set p u hp w')
theorem only_cell {X : Nat → Prop} {w w' : World} (h : Only X w w') (p : Addr) (u : Value) (hp : X p.block) : Only X w (w'.setCell p u) := h.cell p u hp
/-- A row of windows, whatever they are. -/
def Ow (w : World) (B : Nat) (v : Value) (n : Nat) : Prop := ∃ ys, w.ownsRow B 93 9 v n ys
theorem own9 {w : World} {B q n cap : Nat} {ys : List Value} (h : w.ownsRow B 93 9 (.slice (some ⟨q, 0, none⟩) n cap) n ys) (o : Nat) (v0 v1 v2 v3 v4 v5 v6 v7 v8 : Value) :
    Ow (((((((((w.setCell ⟨q, o, none⟩ v0).setCell ⟨q, o + 1, none⟩ v1).setCell ⟨q, o + 2, none⟩ v2).setCell ⟨q, o + 3, none⟩ v3).setCell ⟨q, o + 4, none⟩ v4).setCell ⟨q, o + 5, none⟩ v5).setCell ⟨q, o + 6, none⟩ v6).setCell ⟨q, o + 7, none⟩ v7).setCell ⟨q, o + 8, none⟩ v8) B (.slice (some ⟨q, 0, none⟩) n cap) n := ⟨_, ownsRow_set (ownsRow_set (ownsRow_set (ownsRow_set (ownsRow_set (ownsRow_set (ownsRow_set (ownsRow_set (ownsRow_set (h) v0) v1) v2) v3) v4) v5) v6) v7) v8⟩
theorem only9 {X : Nat → Prop} {w w' : World} (h : Only X w w') (q o : Nat) (hq : X q) (v0 v1 v2 v3 v4 v5 v6 v7 v8 : Value) : Only X w (((((((((w'.setCell ⟨q, o, none⟩ v0).setCell ⟨q, o + 1, none⟩ v1).setCell ⟨q, o + 2, none⟩ v2).setCell ⟨q, o + 3, none⟩ v3).setCell ⟨q, o + 4, none⟩ v4).setCell ⟨q, o + 5, none⟩ v5).setCell ⟨q, o + 6, none⟩ v6).setCell ⟨q, o + 7, none⟩ v7).setCell ⟨q, o + 8, none⟩ v8) :=
  (((((((((h).cell ⟨q, o, none⟩ v0 hq).cell ⟨q, o + 1, none⟩ v1 hq).cell ⟨q, o + 2, none⟩ v2 hq).cell ⟨q, o + 3, none⟩ v3 hq).cell ⟨q, o + 4, none⟩ v4 hq).cell ⟨q, o + 5, none⟩ v5 hq).cell ⟨q, o + 6, none⟩ v6 hq).cell ⟨q, o + 7, none⟩ v7 hq).cell ⟨q, o + 8, none⟩ v8 hq
set_option maxRecDepth 100000 in
set_option maxHeartbeats 2000000 in
theorem spoilKeys_any (X : Nat → Prop) (B : Nat) (A : Option Addr) (n cap : Nat) (l : List Km) (zs0 : List Value) (W : World) (ho : W.ownsRow B 29 3 (.slice A n cap) n zs0) (hln : l.length = n)
    (hz : ∀ i x, l[i]? = some x → zs0[i * 3 + 2]? = some x.win) (hw : ∀ x ∈ l, ∃ ys, W.ownsRow B 93 9 x.win x.k.ws.length ys) (hap : Apt l) (hX : ∀ r, (Value.slice A n cap).ownBlock = some r → X r) (hXw : ∀ x ∈ l, ∀ r, x.win.ownBlock = some r → X r)
    (hB : B ≤ W.heap.size) (hn : ∀ x ∈ l, 72 * (x.k.ws.length + 2) ≤ 140737488355328) :
    Calls Try.prog 17 #[.slice A n cap] W fun e w' => e = .returned (.tuple #[]) ∧ Only X W w' := by
  obtain ⟨iW, hiW, hW0, hW1, hW2⟩ := info_parts winInfo
  have hcap : n ≤ cap ∧ cap ≤ maxLen := by obtain ⟨_, _, hv, h1, h2⟩ := ownsRow_shape ho; cases hv; exact ⟨h1, h2⟩
  unfold maxLen at hcap
  obtain ⟨hcap1, hcap2⟩ := hcap
  have HO0 := Lib.hid ho
  have HLN := Lib.hid hln
  have HAP := Lib.hid hap
  have HX := Lib.hid hX
  have HXW := Lib.hid hXw
  have HNN := Lib.hid hn
  have HS0 : Hid (∀ j x, 0 ≤ j → l[j]? = some x → zs0[j * 3 + 2]? = some x.win ∧ ∃ ys, W.ownsRow B 93 9 x.win x.k.ws.length ys) := Lib.hid fun j x _ h => ⟨hz j x h, hw x (List.mem_of_getElem? h)⟩
  clear ho hln hz hw hap hX hXw hn
  go_enter Try.func17, Try.ntmps17
  go_wp2
  go_loopw [2] (fun q wr => ∃ (i : Nat) (zs : List Value), q = .int .i64 i ∧ i ≤ n ∧ wr.ownsRow B 29 3 (.slice A n cap) n zs ∧ (∀ j x, i ≤ j → l[j]? = some x → zs[j * 3 + 2]? = some x.win ∧ ∃ ys, wr.ownsRow B 93 9 x.win x.k.ws.length ys) ∧ Only X W wr) (fun q _ => n - (intOf q).toNat)
  case atStart => exact ⟨0, zs0, rfl, by omega, HO0.out, HS0.out, Only.refl _ _⟩
  case round =>
    obtain ⟨wo, rfl⟩ : ∃ wo : World, wo = wr := ⟨_, rfl⟩
    obtain ⟨i, zs, rfl, hi, ho, hs, hon⟩ := hrel
    have HO := Lib.hid ho
    have HS := Lib.hid hs
    have HON := Lib.hid hon
    have HSZ : Hid (B ≤ wo.heap.size) := Lib.hid (Nat.le_trans hB hon.size)
    by_cases hin : i < n
    · obtain ⟨x, hx⟩ : ∃ x, l[i]? = some x := ⟨_, List.getElem?_eq_getElem (by rw [HLN.out]; exact hin)⟩
      obtain ⟨hzi, ys0, hys0⟩ := hs i x (Nat.le_refl _) hx
      have hxm := List.mem_of_getElem? hx
      have HNX := HNN.out x hxm
      obtain ⟨g, hA, hBg, hgl, -, -, hcell, hfroz⟩ := ownsRow_at ho (by omega)
      subst hA
      obtain ⟨uk, huk⟩ := ownsRow_cell ho (j := i * 3) (by omega)
      obtain ⟨xk, Ax, cx⟩ := x
      obtain ⟨m, hm⟩ : ∃ m, xk.ws.length = m := ⟨_, rfl⟩
      have hzi' : zs[i * 3 + 2]? = some (.slice Ax m cx) := by rw [← hm]; exact hzi
      have hgz : wo.cell? ⟨g, i * 3 + 2, none⟩ = some (.slice Ax m cx) := hcell _ _ hzi'
      have hys : wo.ownsRow B 93 9 (.slice Ax m cx) m ys0 := by rw [← hm]; exact hys0
      have hnr : ∀ r, (Value.slice Ax m cx).ownBlock = some r → r ≠ g := fun r hr e => by
        subst e
        rcases own_own_ne hys ho (by decide) with h | h
        · rw [h] at hr; cases hr
        · exact h (by rw [hr]; rfl)
      have hxw : ∀ r, (Value.slice Ax m cx).ownBlock = some r → X r := by rw [← hm]; exact HXW.out _ hxm
      have hapx : ∀ j y, i < j → l[j]? = some y → ∀ r, (Value.slice Ax m cx).ownBlock = some r → y.win.ownBlock ≠ some r := fun j y hij hy => by rw [← hm]; exact HAP.out i j _ y hij hx hy
      have hnx : 72 * (m + 2) ≤ 140737488355328 := by rw [← hm]; exact HNN.out _ hxm
      have hcx : m ≤ cx ∧ cx ≤ maxLen := by obtain ⟨_, _, hv, h1, h2⟩ := ownsRow_shape hys; cases hv; exact ⟨h1, h2⟩
      unfold maxLen at hcx
      obtain ⟨hcx1, hcx2⟩ := hcx
      have HNR := Lib.hid hnr
      have HXX := Lib.hid hxw
      have HAPX := Lib.hid hapx
      have HGZ := Lib.hid hgz
      have HYS := Lib.hid hys
      have HZI := Lib.hid hzi'
      have HUK := Lib.hid huk
      have HXG : Hid (X g) := Lib.hid (HX.out g rfl)
      clear ho hs hon hx hzi hys0 hxm hcell hfroz huk hm hzi' hys hnr hxw hapx
      go_wp2
      go_loopw [3] (fun q wi => ∃ (k : Nat), q = .int .i64 k ∧ k ≤ m ∧ Ow wi B (.slice Ax m cx) m ∧ Only (Ob (.slice Ax m cx)) wo wi) (fun q _ => m - (intOf q).toNat)
      case atStart => exact ⟨0, rfl, Nat.zero_le _, ⟨ys0, HYS.out⟩, Only.refl _ _⟩
      case round =>
        clear hgz
        obtain ⟨k, rfl, hk, ⟨ys, hwn⟩, hoi⟩ := hrel
        have hzz : wr.cell? ⟨g, i * 3 + 2, none⟩ = some (.slice Ax m cx) := (cell_only hoi hgl (fun h => HNR.out g h rfl) _).trans HGZ.out
        have HWN := Lib.hid hwn
        have HOI := Lib.hid hoi
        by_cases hkm : k < m
        · obtain ⟨q, hA, -, -, -, -, hcl, hfr⟩ := ownsRow_at hwn (by omega)
          subst hA
          obtain ⟨u0, hu0⟩ := ownsRow_cell hwn (j := k * 9) (by omega)
          have z0 := hcl _ _ hu0
          have f0 := hfr (k * 9)
          obtain ⟨u1, hu1⟩ := ownsRow_cell hwn (j := k * 9 + 1) (by omega)
          have z1 := hcl _ _ hu1
          have f1 := hfr (k * 9 + 1)
          obtain ⟨u2, hu2⟩ := ownsRow_cell hwn (j := k * 9 + 2) (by omega)
          have z2 := hcl _ _ hu2
          have f2 := hfr (k * 9 + 2)
          obtain ⟨u3, hu3⟩ := ownsRow_cell hwn (j := k * 9 + 3) (by omega)
          have z3 := hcl _ _ hu3
          have f3 := hfr (k * 9 + 3)
          obtain ⟨u4, hu4⟩ := ownsRow_cell hwn (j := k * 9 + 4) (by omega)
          have z4 := hcl _ _ hu4
          have f4 := hfr (k * 9 + 4)
          obtain ⟨u5, hu5⟩ := ownsRow_cell hwn (j := k * 9 + 5) (by omega)
          have z5 := hcl _ _ hu5
          have f5 := hfr (k * 9 + 5)
          obtain ⟨u6, hu6⟩ := ownsRow_cell hwn (j := k * 9 + 6) (by omega)
          have z6 := hcl _ _ hu6
          have f6 := hfr (k * 9 + 6)
          obtain ⟨u7, hu7⟩ := ownsRow_cell hwn (j := k * 9 + 7) (by omega)
          have z7 := hcl _ _ hu7
          have f7 := hfr (k * 9 + 7)
          obtain ⟨u8, hu8⟩ := ownsRow_cell hwn (j := k * 9 + 8) (by omega)
          have z8 := hcl _ _ hu8
          have f8 := hfr (k * 9 + 8)
          have hkm2 : decide (k < m) = true := by simpa using hkm
          clear hwn hoi hcl hfr hu0 hu1 hu2 hu3 hu4 hu5 hu6 hu7 hu8
          go_wp2
          go_roundw
          case rel => exact ⟨k + 1, by go_num, by omega, own9 HWN.out _ _ _ _ _ _ _ _ _ _, only9 HOI.out q _ rfl _ _ _ _ _ _ _ _ _⟩
          case measure => simp [intOf]; omega
        · obtain rfl : k = m := by omega
          have hwsz := hoi.size
          clear hwn hoi
          have hkm2 : decide (k < k) = false := by simp
          have hsz := HSZ.out
          go_wp2_with (first
            | (at_builtin; refine wpList_append_rd _ rfl (.tmp 34) (.tmp 37) 27 rfl B 93 iW _ 9 72 Try.underlying27 hiW hW0 hW1 hW2 rfl (by decide) _ k _ rfl (HWN.out.alloc _) (some ⟨wr.heap.size, 0, none⟩) 2 2 [.int .i64 0, .int .i64 0, .int .i64 (-9), .int .i64 0, .int .i64 0, .int .i64 0, .int .i64 0, .int .i64 0, .int .i64 0, .int .i64 0, .int .i64 0, .int .i64 (-9), .int .i64 0, .int .i64 0, .int .i64 0, .int .i64 0, .int .i64 0, .int .i64 0] rfl rfl (Rd.of_owns (own_lit (base := 0) (size := 9) wr _ 2 _ rfl (Nat.zero_le _) (by unfold maxLen; omega) rfl)) (by simp [Value.oneCell']) (by simp only [maxLen]; omega) (by omega) (by simp; omega) ?_; intro v7 w7 ho7 hg7 hat7
               have hon7 := (HOI.out.then (Only.of_below (below_alloc wr (.cells #[.int .i64 0, .int .i64 0, .int .i64 (-9), .int .i64 0, .int .i64 0, .int .i64 0, .int .i64 0, .int .i64 0, .int .i64 0, .int .i64 0, .int .i64 0, .int .i64 (-9), .int .i64 0, .int .i64 0, .int .i64 0, .int .i64 0, .int .i64 0, .int .i64 0] 93)))).then (Only.of_grown hg7 (fun b e => .inl e))
               have hko7 : w7.ownsRow B 29 3 (.slice (some ⟨g, 0, none⟩) n cap) n zs := own_only HO.out hon7 (fun r hr h => by cases hr; exact HNR.out _ h rfl)
               obtain ⟨g', hA7, -, hgl7, -, -, hcell7, hfroz7⟩ := ownsRow_at hko7 (by omega)
               cases hA7
               have z7 := hcell7 _ _ HZI.out
               have y7 := hcell7 _ _ HUK.out
               have f7 := hfroz7 (i * 3 + 2)
               have e7 := hfroz7 (i * 3)
               have HON7 := Lib.hid hon7
               have HKO7 := Lib.hid hko7
               obtain ⟨A7, c7, rfl, -, -⟩ := ownsRow_shape ho7
               clear ho7 hg7 hat7 hon7 hko7 hcell7 hfroz7))
          go_roundw
          case rel =>
            refine ⟨i + 1, _, by go_num, by omega, ownsRow_set (ownsRow_set HKO7.out _) _, ?_, ?_⟩
            · intro j y hj hy
              obtain ⟨h1, ys', h2⟩ := HS.out j y (by omega) hy
              have h3 := own_only h2 HON7.out (fun r hr h => HAPX.out j y (by omega) hy r h hr)
              have hgy : y.win.ownBlock ≠ some g := fun e => by
                rcases own_own_ne h3 HKO7.out (by decide) with h | h
                · rw [h] at e; cases e
                · exact h (by rw [e]; rfl)
              refine ⟨?_, ys', ownsRow_setCell_other (ownsRow_setCell_other h3 hgy _) hgy _⟩
              rw [List.getElem?_set_ne (by omega), List.getElem?_set_ne (by omega)]
              exact h1
            · exact ((HON.out.then (HON7.out.wide (fun b h => .inl (HXX.out b h)))).cell ⟨g, i * 3 + 2, none⟩ _ HXG.out).cell ⟨g, i * 3, none⟩ _ HXG.out
          case measure => simp [intOf]; omega
    · obtain rfl : i = n := by omega
      clear ho hs hon
      have hn2 : decide (i < i) = false := by simp
      go_wp2
      go_end0
      exact ⟨rfl, HON.out⟩
end Go.Proofs.Ytaechgnjdjijkaa
