/- The library's maps.Keys and slices.Sorted at this program: laid by the shelf. drive.Append, drive.Read, drive.Flush, clones of files. Rows of strings; strings.HasPrefix; slices.DeleteFunc by it. drive.List, Size, Dead, Arm, Wipe. -/
import Derived.Shelf.SlGeneric
import Derived.Shelf.SlIter.Nil
import Derived.Shelf.SortM.Plain
import Derived.Shelf.SortM.SortNone
import Derived.Shelf.SlMaps.Clone
import Derived.Ground.GgzProg
import Derived.Ground.SlgmProg
import Derived.Ground.SlmcProg
import Derived.Test.YtbmhkdcmepfmbaaGreatProg
import Derived.Test.YtbmhkdcmepfmbaaGreatB10
import Derived.Test.YtbmhkdcmepfmbaaGreatB05
import Derived.Sort.KeysCollected
set_option linter.unusedVariables false
set_option linter.unusedSimpArgs false
namespace Go.Proofs.YtbmhkdcmepfmbaaGreat
open Go.RowKit Go.Maps Go.Sort Go.Shelf
def Tryz.keys96_ren : Go.Shelf.Ren := ⟨fun | 7 => 96 | 10 => 121 | n => n, fun | 23 => 71 | 26 => 9 | 3 => 22 | 28 => 161 | 0 => 0 | 27 => 160 | 33 => 165 | 4 => 4 | n => n, fun | n => n⟩
theorem Tryz.keys96 : Go.Proofs.SlLaysZ.n7 Tryz.prog Tryz.keys96_ren := {
  mixed := by kernel_rfl
  f7 := ⟨Tryz.f96.name, by decide, Tryz.func96.trans (congrArg some (by kernel_rfl))⟩
  f10 := ⟨Tryz.f121.name, by decide, Tryz.func121.trans (congrArg some (by kernel_rfl))⟩
  t0 := Tryz.underlying0
  a0 := Tryz.isAgg0
  z0 := Tryz.sizeOf0
  v0 := Tryz.zeroValue0
  t4 := Tryz.underlying4
  a4 := Tryz.isAgg4
  z4 := Tryz.sizeOf4
  v4 := Tryz.zeroValue4
  t23 := Tryz.underlying71
  a23 := Tryz.isAgg71
  z23 := Tryz.sizeOf71
  v23 := Tryz.zeroValue71
  t26 := Tryz.underlying9
  a26 := Tryz.isAgg9
  z26 := Tryz.sizeOf9
  v26 := Tryz.zeroValue9
  t27 := Tryz.underlying160
  a27 := Tryz.isAgg160
  z27 := Tryz.sizeOf160
  v27 := Tryz.zeroValue160
  t28 := Tryz.underlying161
  a28 := Tryz.isAgg161
  z28 := Tryz.sizeOf161
  v28 := Tryz.zeroValue161
  t33 := Tryz.underlying165
  a33 := Tryz.isAgg165
  z33 := Tryz.sizeOf165
  v33 := Tryz.zeroValue165 }
def Tryz.sorted95_ren : Go.Shelf.Ren := ⟨fun | 6 => 95 | 8 => 119 | 9 => 120 | 11 => 134 | 13 => 88 | 12 => 135 | 23 => 116 | 24 => 117 | 14 => 140 | 15 => 141 | 16 => 142 | 17 => 143 | 18 => 144 | 19 => 145 | 20 => 146 | 21 => 147 | 22 => 148 | 25 => 149 | 26 => 128 | 27 => 129 | 28 => 150 | 29 => 151 | 30 => 152 | 31 => 153 | n => n, fun | 26 => 9 | 28 => 161 | 24 => 130 | 0 => 0 | 3 => 3 | 37 => 145 | 48 => 189 | 50 => 117 | 4 => 4 | 40 => 182 | 39 => 181 | 45 => 120 | 5 => 5 | 9 => 9 | 51 => 197 | 55 => 200 | 57 => 209 | 58 => 210 | 33 => 165 | n => n, fun | n => n⟩
theorem Tryz.sorted95 : Go.Proofs.SlLaysZ.n6 Tryz.prog Tryz.sorted95_ren := {
  mixed := by kernel_rfl
  f6 := ⟨Tryz.f95.name, by decide, Tryz.func95.trans (congrArg some (by kernel_rfl))⟩
  f8 := ⟨Tryz.f119.name, by decide, Tryz.func119.trans (congrArg some (by kernel_rfl))⟩
  f11 := ⟨Tryz.f134.name, by decide, Tryz.func134.trans (congrArg some (by kernel_rfl))⟩
  t0 := Tryz.underlying0
  a0 := Tryz.isAgg0
  z0 := Tryz.sizeOf0
  v0 := Tryz.zeroValue0
  t24 := Tryz.underlying130
  a24 := Tryz.isAgg130
  z24 := Tryz.sizeOf130
  v24 := Tryz.zeroValue130
  t26 := Tryz.underlying9
  a26 := Tryz.isAgg9
  z26 := Tryz.sizeOf9
  v26 := Tryz.zeroValue9
  t28 := Tryz.underlying161
  a28 := Tryz.isAgg161
  z28 := Tryz.sizeOf161
  v28 := Tryz.zeroValue161
  i26 := by kernel_rfl }
def Tryz.sort120_ren : Go.Shelf.Ren := ⟨fun | 6 => 120 | 8 => 88 | 9 => 135 | 19 => 116 | 20 => 117 | 21 => 140 | 22 => 141 | 23 => 142 | 24 => 143 | 25 => 144 | 26 => 145 | 27 => 146 | 28 => 147 | 29 => 148 | 36 => 149 | 31 => 128 | 32 => 129 | 37 => 150 | 38 => 151 | 39 => 152 | 41 => 153 | n => n, fun | 27 => 130 | 29 => 9 | 3 => 3 | 32 => 145 | 26 => 130 | 0 => 0 | 44 => 189 | 46 => 117 | 4 => 4 | 36 => 182 | 35 => 181 | 41 => 120 | 5 => 5 | 9 => 9 | 53 => 197 | 57 => 200 | 63 => 209 | 64 => 210 | n => n, fun | n => n⟩
theorem Tryz.sort120 : Go.Proofs.SlLaysM.n6 Tryz.prog Tryz.sort120_ren := {
  mixed := by kernel_rfl
  f6 := ⟨Tryz.f120.name, by decide, Tryz.func120.trans (congrArg some (by kernel_rfl))⟩
  f8 := Tryz.func88.trans (congrArg some (by kernel_rfl))
  f9 := ⟨Tryz.f135.name, by decide, Tryz.func135.trans (congrArg some (by kernel_rfl))⟩
  f19 := Tryz.func116.trans (congrArg some (by kernel_rfl))
  f20 := Tryz.func117.trans (congrArg some (by kernel_rfl))
  f21 := ⟨Tryz.f140.name, by decide, Tryz.func140.trans (congrArg some (by kernel_rfl))⟩
  f22 := ⟨Tryz.f141.name, by decide, Tryz.func141.trans (congrArg some (by kernel_rfl))⟩
  f23 := ⟨Tryz.f142.name, by decide, Tryz.func142.trans (congrArg some (by kernel_rfl))⟩
  f24 := ⟨Tryz.f143.name, by decide, Tryz.func143.trans (congrArg some (by kernel_rfl))⟩
  f25 := ⟨Tryz.f144.name, by decide, Tryz.func144.trans (congrArg some (by kernel_rfl))⟩
  f26 := ⟨Tryz.f145.name, by decide, Tryz.func145.trans (congrArg some (by kernel_rfl))⟩
  f27 := ⟨Tryz.f146.name, by decide, Tryz.func146.trans (congrArg some (by kernel_rfl))⟩
  f28 := ⟨Tryz.f147.name, by decide, Tryz.func147.trans (congrArg some (by kernel_rfl))⟩
  f29 := ⟨Tryz.f148.name, by decide, Tryz.func148.trans (congrArg some (by kernel_rfl))⟩
  f31 := Tryz.func128.trans (congrArg some (by kernel_rfl))
  f32 := Tryz.func129.trans (congrArg some (by kernel_rfl))
  f36 := ⟨Tryz.f149.name, by decide, Tryz.func149.trans (congrArg some (by kernel_rfl))⟩
  f37 := ⟨Tryz.f150.name, by decide, Tryz.func150.trans (congrArg some (by kernel_rfl))⟩
  f38 := ⟨Tryz.f151.name, by decide, Tryz.func151.trans (congrArg some (by kernel_rfl))⟩
  f39 := ⟨Tryz.f152.name, by decide, Tryz.func152.trans (congrArg some (by kernel_rfl))⟩
  f41 := ⟨Tryz.f153.name, by decide, Tryz.func153.trans (congrArg some (by kernel_rfl))⟩
  t0 := Tryz.underlying0
  a0 := Tryz.isAgg0
  z0 := Tryz.sizeOf0
  v0 := Tryz.zeroValue0
  t3 := Tryz.underlying3
  a3 := Tryz.isAgg3
  z3 := Tryz.sizeOf3
  v3 := Tryz.zeroValue3
  t4 := Tryz.underlying4
  a4 := Tryz.isAgg4
  z4 := Tryz.sizeOf4
  v4 := Tryz.zeroValue4
  t5 := Tryz.underlying5
  a5 := Tryz.isAgg5
  z5 := Tryz.sizeOf5
  v5 := Tryz.zeroValue5
  t9 := Tryz.underlying9
  a9 := Tryz.isAgg9
  z9 := Tryz.sizeOf9
  v9 := Tryz.zeroValue9
  t26 := Tryz.underlying130
  a26 := Tryz.isAgg130
  z26 := Tryz.sizeOf130
  v26 := Tryz.zeroValue130
  t27 := Tryz.underlying130
  a27 := Tryz.isAgg130
  z27 := Tryz.sizeOf130
  v27 := Tryz.zeroValue130
  t29 := Tryz.underlying9
  a29 := Tryz.isAgg9
  z29 := Tryz.sizeOf9
  v29 := Tryz.zeroValue9
  t32 := Tryz.underlying145
  a32 := Tryz.isAgg145
  z32 := Tryz.sizeOf145
  v32 := Tryz.zeroValue145
  t35 := Tryz.underlying181
  a35 := Tryz.isAgg181
  z35 := Tryz.sizeOf181
  v35 := Tryz.zeroValue181
  t36 := Tryz.underlying182
  a36 := Tryz.isAgg182
  z36 := Tryz.sizeOf182
  v36 := Tryz.zeroValue182
  t41 := Tryz.underlying120
  a41 := Tryz.isAgg120
  z41 := Tryz.sizeOf120
  v41 := Tryz.zeroValue120
  t44 := Tryz.underlying189
  a44 := Tryz.isAgg189
  z44 := Tryz.sizeOf189
  v44 := Tryz.zeroValue189
  t46 := Tryz.underlying117
  a46 := Tryz.isAgg117
  z46 := Tryz.sizeOf117
  v46 := Tryz.zeroValue117
  t53 := Tryz.underlying197
  a53 := Tryz.isAgg197
  z53 := Tryz.sizeOf197
  v53 := Tryz.zeroValue197
  t57 := Tryz.underlying200
  a57 := Tryz.isAgg200
  z57 := Tryz.sizeOf200
  v57 := Tryz.zeroValue200
  t63 := Tryz.underlying209
  a63 := Tryz.isAgg209
  z63 := Tryz.sizeOf209
  v63 := Tryz.zeroValue209
  t64 := Tryz.underlying210
  a64 := Tryz.isAgg210
  z64 := Tryz.sizeOf210
  v64 := Tryz.zeroValue210 }
def Tryz.clone54_ren : Go.Shelf.Ren := ⟨fun | 5 => 54 | 7 => 79 | n => n, fun | 23 => 71 | 25 => 9 | 3 => 22 | 4 => 4 | 20 => 20 | n => n, fun | n => n⟩
theorem Tryz.clone54 : Go.Proofs.SlLaysW.n5 Tryz.prog Tryz.clone54_ren := {
  mixed := by kernel_rfl
  f5 := ⟨Tryz.f54.name, by decide, Tryz.func54.trans (congrArg some (by kernel_rfl))⟩
  f7 := Tryz.func79.trans (congrArg some (by kernel_rfl))
  t4 := Tryz.underlying4
  a4 := Tryz.isAgg4
  z4 := Tryz.sizeOf4
  v4 := Tryz.zeroValue4
  t20 := Tryz.underlying20
  a20 := Tryz.isAgg20
  z20 := Tryz.sizeOf20
  v20 := Tryz.zeroValue20
  t23 := Tryz.underlying71
  a23 := Tryz.isAgg71
  z23 := Tryz.sizeOf71
  v23 := Tryz.zeroValue71 }
def Tryz.clone89_ren : Go.Shelf.Ren := ⟨fun | 5 => 89 | 7 => 79 | n => n, fun | 23 => 62 | 25 => 3 | 3 => 3 | 4 => 4 | 20 => 20 | n => n, fun | n => n⟩
theorem Tryz.clone89 : Go.Proofs.SlLaysW.n5 Tryz.prog Tryz.clone89_ren := {
  mixed := by kernel_rfl
  f5 := ⟨Tryz.f89.name, by decide, Tryz.func89.trans (congrArg some (by kernel_rfl))⟩
  f7 := Tryz.func79.trans (congrArg some (by kernel_rfl))
  t4 := Tryz.underlying4
  a4 := Tryz.isAgg4
  z4 := Tryz.sizeOf4
  v4 := Tryz.zeroValue4
  t20 := Tryz.underlying20
  a20 := Tryz.isAgg20
  z20 := Tryz.sizeOf20
  v20 := Tryz.zeroValue20
  t23 := Tryz.underlying62
  a23 := Tryz.isAgg62
  z23 := Tryz.sizeOf62
  v23 := Tryz.zeroValue62 }
theorem Tryz.sorts95 (m : Nat) : AnyZ.SortsIn Tryz.prog Tryz.sorted95_ren Fence.wide m :=
  ⟨fun blk off cap ss W hH hblk hsz => callsIn_wide.2 (AnyM.slices_Sort_string Tryz.sort120 blk off cap ss W hH hblk hsz),
   fun p cap W => callsIn_wide.2 (AnyM.slices_Sort_string_none Tryz.sort120 p cap W)⟩
theorem Tryz.maps_Keys_96 (mb : Option Nat) (W : World) : CallsIn Fence.wide 5 Tryz.prog 96 #[.map mb] W fun e w' => e = .returned (.func (.func 121) #[] #[.pointer (some ⟨W.heap.size, 0, none⟩)]) ∧ w' = W.alloc (.cells #[.map mb] 71) :=
  AnyZ.keys_in Tryz.keys96 Fence.wide 5 trivial rfl mb W
set_option maxHeartbeats 1000000 in
theorem Tryz.slices_Sorted_keys_95_96 {H : Type} (b nn : Nat) (D0 : DataW H) (R : Value → Option (DataW H × List MemPlace)) (w : World) (hown : w.ownsMap Tryz.prog 9 R b nn D0) (hmax : Maps.size D0 ≤ maxLen) (hbytes : Maps.size D0 * 16 ≤ 140737488355328) :
    CallsIn Fence.wide 5 Tryz.prog 95 #[.func (.func 121) #[] #[.pointer (some ⟨w.heap.size, 0, none⟩)]] (w.alloc (.cells #[.map (some b)] 71)) fun e w' => ∃ (v : Value) (ss : List (List UInt8)), e = .returned v ∧ ss.Perm (strKeys D0) ∧
      w'.ownsRow (w.alloc (.cells #[.map (some b)] 71)).heap.size 9 1 v ss.length ((ss.mergeSort (fun x y => decide (x ≤ y))).map encStr) ∧ (v = .slice none 0 0 ↔ ss = []) ∧ Below (w.alloc (.cells #[.map (some b)] 71)).heap.size (w.alloc (.cells #[.map (some b)] 71)) w' := by
  have hbl := hown.lt
  have hseq : SeqGives Fence.wide 2 Tryz.prog 121 #[.pointer (some ⟨w.heap.size, 0, none⟩)] encStr (fun ss => ss.Perm (strKeys D0)) (Maps.size D0) (w.alloc (.cells #[.map (some b)] 71)) :=
    AnyZ.keys_gives (ρ := Tryz.keys96_ren) { Tryz.keys96 with } Fence.wide _ trivial rfl (by omega) w.heap.size b nn D0 _ (by simp) (by simp) (by
      obtain ⟨es, clock, hb, Ft, hs, hD⟩ := hown
      exact ⟨es, clock, (Below.heap_alloc _ _ b hbl).trans hb, Ft, hs, hD⟩)
  exact AnyZ.sorted_in Tryz.sorted95 Fence.wide 5 trivial trivial trivial trivial rfl (by omega) (Tryz.sorts95 _) (enters_of Tryz.func120 (by kernel_rfl) rfl) 121 #[.pointer (some ⟨w.heap.size, 0, none⟩)] trivial (enters_of Tryz.func121 (by kernel_rfl) rfl) _ _ hmax hbytes _ hseq
set_option maxHeartbeats 1000000 in
theorem Tryz.slices_Sorted_keys_nil_95_96 (w : World) :
    CallsIn Fence.wide 5 Tryz.prog 95 #[.func (.func 121) #[] #[.pointer (some ⟨w.heap.size, 0, none⟩)]] (w.alloc (.cells #[.map none] 71)) fun e w' => ∃ (v : Value) (ss : List (List UInt8)), e = .returned v ∧ ss = [] ∧
      w'.ownsRow (w.alloc (.cells #[.map none] 71)).heap.size 9 1 v ss.length ((ss.mergeSort (fun x y => decide (x ≤ y))).map encStr) ∧ (v = .slice none 0 0 ↔ ss = []) ∧ Below (w.alloc (.cells #[.map none] 71)).heap.size (w.alloc (.cells #[.map none] 71)) w' := by
  have hseq : SeqGives Fence.wide 2 Tryz.prog 121 #[.pointer (some ⟨w.heap.size, 0, none⟩)] encStr (fun ss : List (List UInt8) => ss = []) 0 (w.alloc (.cells #[.map none] 71)) :=
    AnyZ.keys_gives_nil (ρ := Tryz.keys96_ren) { Tryz.keys96 with } Fence.wide _ trivial rfl w.heap.size _ (by simp) (by simp)
  exact AnyZ.sorted_in Tryz.sorted95 Fence.wide 5 trivial trivial trivial trivial rfl (by omega) (Tryz.sorts95 _) (enters_of Tryz.func120 (by kernel_rfl) rfl) 121 #[.pointer (some ⟨w.heap.size, 0, none⟩)] trivial (enters_of Tryz.func121 (by kernel_rfl) rfl) _ 0 (Nat.zero_le _) (by omega) _ hseq
end Go.Proofs.YtbmhkdcmepfmbaaGreat
set_option linter.unusedVariables false
set_option linter.unusedSimpArgs false
namespace Go.Proofs.YtbmhkdcmepfmbaaGreat
open Go.RowKit
attribute [local go_sem ↓] Go.wp_at_zero Go.wp_at_succ
set_option maxRecDepth 100000 in
set_option maxHeartbeats 4000000 in
/-- drive.Append -/
theorem append_any {M D A : Nat → Prop} {w : World} {b : Nat} {d : Dm} (n l : By) (v : Value) (h : DrIs M D w b d) (hn : n.length ≤ maxLen) (hv : Bs A w v l) (ht : tot d.seen ≤ lim) (hr : 0 ≤ d.room ∧ d.room ≤ 9223372036854775807)
    (hfit : wrE d n (foz d.seen n).length l.length = 0 → (foz d.seen n).length + l.length ≤ lim) (hl : d.seen.length + 1 < maxLen) (hq : (d.queue.length + 1) * 16 ≤ 140737488355328) :
    Calls Tryz.prog 74 #[.pointer (some ⟨b, 0, none⟩), .string ⟨n.toArray⟩, v] w (WritePost M D w b d n (foz d.seen n).length l) := by
  have HW := Hid.mk' (write_any n l ((foz d.seen n).length : Int) v h hn hv ht hr (by simpa using hfit) hl hq)
  obtain ⟨ms, mv, q, hb, h1, h2, h3, h4⟩ := h.ex
  obtain ⟨⟨c0, c1, c2, c3, c4, c5, c6⟩, c7⟩ := box7 hb
  obtain ⟨v0, _, hlk, hv0, _⟩ := h2.look n hn
  have hol := hv0.2
  unfold lim at hol
  obtain ⟨va, vc, rfl, hva0⟩ := hv0.at
  clear hva0 hv0 hb h1 h2 h3 h4 h hn hv ht hr hfit hl hq c0 c2 c3 c4 c5 c6
  go_enter Tryz.func74, Tryz.ntmps74
  go_wp2_with fail
  refine HW.out.mono ?_
  rintro E w3 ⟨rfl, hT⟩
  have HT := Hid.mk' hT
  clear hT HW
  go_wp2_with fail
  go_ret
  exact ⟨rfl, HT.out⟩
def rdE (d : Dm) (n : By) : Int := if d.dead then 9 else thE d n
def rdB (d : Dm) (n : By) : By := if d.dead then [] else foz d.seen n
def ReadPost (w : World) (d : Dm) (n : By) (E : Ending) (w' : World) : Prop := ∃ v', E = .returned (.tuple #[v', .int .i64 (rdE d n)]) ∧ Below w.heap.size w w' ∧ Ob 5 w.heap.size w' v' (rdB d n)
set_option maxRecDepth 100000 in
set_option maxHeartbeats 4000000 in
/-- drive.Read -/
theorem read_any {M D : Nat → Prop} {w : World} {b : Nat} {d : Dm} (n : By) (h : DrIs M D w b d) (hn : n.length ≤ maxLen) : Calls Tryz.prog 29 #[.pointer (some ⟨b, 0, none⟩), .string ⟨n.toArray⟩] w (ReadPost w d n) := by
  obtain ⟨ms, mv, q, hb, h1, h2, h3, h4⟩ := h.ex
  obtain ⟨⟨c0, c1, c2, c3, c4, c5, c6⟩, c7⟩ := box7 hb
  obtain ⟨v0, _, hlk, hv0, _⟩ := h2.look n hn
  have HTH := Hid.mk' (there_any n hb h2 hn)
  have HV := Hid.mk' hv0
  have HR : Hid (rdE d n = if d.dead then 9 else thE d n) := rfl
  have HB : Hid (rdB d n = if d.dead then [] else foz d.seen n) := rfl
  have HE : Hid (thE d n = if (fget d.seen n).isSome then 0 else 6) := rfl
  have HO : Hid ((fget d.seen n).isSome = false → foz d.seen n = []) := fun he => by unfold foz; cases hx : fget d.seen n with
    | none => rfl
    | some y => rw [hx] at he; cases he
  unfold ReadPost
  generalize rdE d n = r at *
  generalize rdB d n = rb at *
  generalize thE d n = t at *
  generalize (fget d.seen n).isSome = s at *
  clear hb h1 h2 h3 h4 h hn hv0 c0 c2 c3 c4 c5
  generalize d.dead = dd at *
  cases dd
  · cases s
    · have ht : t = 6 := by rw [HE.out]; rfl
      subst ht
      go_enter Tryz.func29, Tryz.ntmps29
      go_wp2_with (go_at_call 55; go_must (refine HTH.out.mono ?_; rintro E w1 ⟨rfl, rfl⟩))
      go_ret2
      refine ⟨.slice none 0 0, by rw [HR.out]; rfl, Below.refl _ _, ?_⟩
      rw [HB.out]
      simp only [Bool.false_eq_true, if_false]
      rw [HO.out trivial]; exact ob_nil
    · have ht : t = 0 := by rw [HE.out]; rfl
      subst ht
      go_enter Tryz.func29, Tryz.ntmps29
      go_wp2_with (first | (go_at_call 55; refine HTH.out.mono ?_; rintro E w1 ⟨rfl, rfl⟩) | (go_at_call 35; refine (clone_any v0 _ _ HV.out).mono ?_; rintro E w2 ⟨v', rfl, hb2, ho2⟩))
      go_ret2
      refine ⟨v', by rw [HR.out]; rfl, hb2, ?_⟩
      rw [HB.out]; exact ho2
  · go_enter Tryz.func29, Tryz.ntmps29
    go_wp2
    go_ret2
    refine ⟨.slice none 0 0, by rw [HR.out]; rfl, Below.refl _ _, ?_⟩
    rw [HB.out]; exact ob_nil
theorem FI.cloned {D : Nat → Prop} {w : World} {k : Nat} {F : Fl} (h : FI D w k F) : Calls Tryz.prog 54 #[.map (some k)] w fun e w' => e = .returned (.map (some w.heap.size)) ∧ Below w.heap.size w w' ∧ FI D w' w.heap.size F := by
  obtain ⟨hS, g, ⟨DD, hown, hsz, hT, hf⟩, h2⟩ := h
  refine (AnyW.maps_Clone_owns Tryz.clone54 9 hR k F.length DD w hown).mono ?_
  rintro e w' ⟨rfl, o1, o2, hb⟩
  refine ⟨rfl, hb, hS, g, ⟨DD, o1, hsz, hT, hf⟩, fun s => ?_⟩
  rcases h2 s with h | ⟨v, l, a, b, c⟩
  · exact .inl h
  · exact .inr ⟨v, l, a, b, c.up hb⟩
/-- maps.Clone of files -/
theorem FilesIs.cloned {M D : Nat → Prop} {w : World} {m : Option Nat} {F : Fl} (h : FilesIs M D w m F) : Calls Tryz.prog 54 #[.map m] w fun e w' => ∃ m', e = .returned (.map m') ∧ Below w.heap.size w w' ∧ FilesIs (fun k => k = w.heap.size) D w' m' F ∧ ∀ k, m' = some k → k = w.heap.size := by
  rcases h with ⟨rfl, rfl⟩ | ⟨k, rfl, _, hF⟩
  · refine (AnyW.maps_Clone_nil Tryz.clone54 w).mono ?_
    rintro e w' ⟨rfl, rfl⟩
    exact ⟨none, rfl, Below.refl _ _, .inl ⟨rfl, rfl⟩, fun _ h => by cases h⟩
  · refine hF.cloned.mono ?_
    rintro e w' ⟨rfl, hb, hF2⟩
    exact ⟨_, rfl, hb, .inr ⟨_, rfl, rfl, hF2⟩, fun k h => by cases h; rfl⟩
theorem FilesIs.self {M D : Nat → Prop} {w : World} {m : Option Nat} {F : Fl} (h : FilesIs M D w m F) : FilesIs (fun k => m = some k) D w m F := by
  rcases h with h | ⟨k, e, _, hF⟩
  · exact .inl h
  · exact .inr ⟨k, e, e, hF⟩
theorem FilesIs.lt {M D : Nat → Prop} {w : World} {m : Option Nat} {F : Fl} (h : FilesIs M D w m F) : ∀ k, m = some k → M k ∧ k < w.heap.size := by
  intro k hk
  rcases h with ⟨e, _⟩ | ⟨k', e, hm, hF⟩
  · rw [e] at hk; cases hk
  · rw [e] at hk; cases hk; exact ⟨hm, hF.lt⟩
theorem DrIs.boxed {M D : Nat → Prop} {w2 w3 : World} {b : Nat} {d' : Dm} {ms mv : Option Nat} {q : Value} (hw : Wb (fun k => k = b) w2 w3) (hb : w3.heap[b]? = some (.cells #[.map ms, .map mv, q, .int .i64 d'.room, .bool d'.armed, .int .i64 d'.left, .bool d'.dead] 74 (0, 0)))
    (h1 : FilesIs M D w2 ms d'.safe) (h2 : FilesIs M D w2 mv d'.seen) (h3 : QueueIs D w2 q d'.queue) (h4 : ∀ k, ms = some k → mv ≠ some k) (hD : ∀ k, D k → k < w2.heap.size ∧ ¬ M k ∧ k ≠ b) (hM : ∀ k, M k → k < w2.heap.size ∧ k ≠ b)
    (hl : d'.armed = true → 0 ≤ d'.left ∧ d'.left ≤ 9223372036854775807) : DrIs M D w3 b d' := by
  have hX : ∀ k, k = b → ¬ D k := fun k hk hd => (hD k hd).2.2 hk
  exact ⟨⟨ms, mv, q, hb, h1.wb hw hX (fun k hk e => (hM k (h1.lt k hk).1).2 e), h2.wb hw hX (fun k hk e => (hM k (h2.lt k hk).1).2 e), h3.wb hw hX, h4⟩, fun k hk => ⟨Nat.lt_of_lt_of_le (hD k hk).1 hw.size, (hD k hk).2⟩, fun k hk => ⟨Nat.lt_of_lt_of_le (hM k hk).1 hw.size, (hM k hk).2⟩, hl⟩
set_option maxRecDepth 100000 in
set_option maxHeartbeats 4000000 in
/-- drive.Flush -/
theorem flush_any {M D : Nat → Prop} {w : World} {b : Nat} {d : Dm} (h : DrIs M D w b d) : Calls Tryz.prog 76 #[.pointer (some ⟨b, 0, none⟩)] w fun E w' => E = .returned (.int .i64 (rawE d 0)) ∧ Turned M D w b (flD d) w' := by
  obtain ⟨ms, mv, q, hb, h1, h2, h3, h4⟩ := h.ex
  have hm := may_any 0 h.left hb
  obtain ⟨e1, e2, e3⟩ := mayD_safe d 0
  have hml := mayD_left d 0 h.left
  obtain ⟨k2, hR⟩ : ∃ k2, mayR d 0 = ((mayR d 0).1, k2, rawE d 0) := ⟨(mayR d 0).2.1, rfl⟩
  have hF : flD d = if (mayR d 0).1 then { mayD d 0 with safe := d.seen, queue := [] } else mayD d 0 := by
    unfold flD mayR mayD
    cases hd : d.dead
    · by_cases hk : d.armed ∧ d.left = 0
      · simp [hk]
      · simp [hk]
    · simp
  generalize (mayR d 0).1 = ok at *
  rw [hR] at hm
  simp only at hm
  generalize rawE d 0 = re at *
  have hbl : b < w.heap.size := (Array.getElem?_eq_some_iff.1 hb).1
  generalize mayD d 0 = d1 at *
  have HM := Hid.mk' hm
  have HF := Hid.mk' hF
  have HP := Hid.mk' (fun w1 (hW : Wb (fun k => k = b) w w1) hbx => h.may (w1 := w1) (d1 := d1) h1 h2 h3 h4 hW hbx e1 e2 e3 hml)
  have HML := Hid.mk' hml
  have HES := Hid.mk' (⟨e1, e2, e3⟩ : d1.safe = d.safe ∧ d1.seen = d.seen ∧ d1.queue = d.queue)
  have HMM := Hid.mk' (⟨h.hM, fun k hk => (h2.lt k hk).1, h.hD⟩ : (∀ k, M k → k < w.heap.size ∧ k ≠ b) ∧ (∀ k, mv = some k → M k) ∧ ∀ k, D k → k < w.heap.size ∧ ¬ M k ∧ k ≠ b)
  have H2 := Hid.mk' (⟨h2, h3⟩ : FilesIs M D w mv d.seen ∧ QueueIs D w q d.queue)
  clear hm hR hF h h1 h2 h3 h4 hb e1 e2 e3 hml
  cases ok
  · go_enter Tryz.func76, Tryz.ntmps76
    go_wp2_with (go_at_call 100; go_must (refine HM.out.mono ?_; rintro E w1 ⟨rfl, hW, hsz, hbx⟩))
    go_ret
    refine ⟨rfl, ?_⟩
    rw [HF.out]
    exact (HP.out w1 hW hbx).turned hW
  · go_enter Tryz.func76, Tryz.ntmps76
    go_wp2_with fail
    refine HM.out.mono ?_
    rintro E w1 ⟨rfl, hW, hsz, hbx⟩
    obtain ⟨⟨c0, c1, c2, c3, c4, c5, c6⟩, c7⟩ := box7 hbx
    have HD1 := Hid.mk' (HP.out w1 hW hbx)
    have hX : ∀ k, k = b → ¬ D k := fun k hk hd => (HMM.out.2.2 k hd).2.2 hk
    have HV := Hid.mk' (H2.out.1.wb hW hX (fun k hk e => (HMM.out.1 k (HMM.out.2.1 k hk)).2 e))
    have HW := Hid.mk' hW
    have HB := Hid.mk' hbx
    clear hX hW hbx c0 c2 c3 c4 c5 c6
    have hb1 : b < w1.heap.size := by omega
    go_wp2_with fail
    refine HV.out.cloned.mono ?_
    rintro E w2 ⟨m', rfl, hb2, hm', hk'⟩
    have hbx2 : w2.heap[b]? = w1.heap[b]? := hb2.block b hb1
    rw [HB.out] at hbx2
    obtain ⟨⟨c0, c1, c2, c3, c4, c5, c6⟩, c7⟩ := box7 hbx2
    have HT : Hid (Turned M D w b (flD d) ((w2.setCell ⟨b, 0, none⟩ (.map m')).setCell ⟨b, 2, none⟩ (.slice none 0 0))) := by
      have hw3 : Wb (fun k => k = b) w2 ((w2.setCell ⟨b, 0, none⟩ (.map m')).setCell ⟨b, 2, none⟩ (.slice none 0 0)) := (Wb.set (X := fun k => k = b) _ _ _ _ rfl).trans (Wb.set _ _ _ _ rfl)
      refine ⟨((HW.out.trans (Wb.of_below _ hb2)).trans hw3).mono fun k hk => .inl hk, fun k => M k ∨ m' = some k, D, fun k hk => hk.imp id fun h => by rw [hk' k h, hsz]; exact Nat.le_refl _, fun k hk => .inl hk, ?_⟩
      rw [HF.out, if_pos trivial]
      refine DrIs.boxed (ms := m') (mv := mv) (q := .slice none 0 0) hw3 (by rw [box7_set (box7_set hbx2 _)]; rfl) (hm'.self.mono (fun k h => .inr h) fun _ h => h) ?_ (QueueIs.nil _ _) (fun k hk e => ?_) (fun k hk => ⟨Nat.lt_of_lt_of_le (HMM.out.2.2 k hk).1 (by rw [← hsz]; exact hb2.size), fun hm => ?_, (HMM.out.2.2 k hk).2.2⟩) (fun k hk => ?_) HML.out
      · show FilesIs _ _ _ _ d1.seen
        rw [HES.out.2.1]
        exact (HV.out.wb (Wb.of_below (fun _ => False) hb2) (fun _ h => h.elim) (fun _ _ h => h)).mono (fun k h => .inl h) fun _ h => h
      · have a1 := hk' k hk
        have a2 := (HMM.out.1 k (HMM.out.2.1 k e)).1
        omega
      · rcases hm with hm | hm
        · exact (HMM.out.2.2 k hk).2.1 hm
        · have a1 := hk' k hm
          have a2 := (HMM.out.2.2 k hk).1
          omega
      · rcases hk with hk | hk
        · exact ⟨Nat.lt_of_lt_of_le (HMM.out.1 k hk).1 (by rw [← hsz]; exact hb2.size), (HMM.out.1 k hk).2⟩
        · exact ⟨(hm'.lt k hk).2, by have := hk' k hk; omega⟩
    clear hm' hk' hb2 hbx2 HV
    go_wp2_with fail
    go_ret
    exact ⟨rfl, HT.out⟩
end Go.Proofs.YtbmhkdcmepfmbaaGreat
set_option linter.unusedVariables false
set_option linter.unusedSimpArgs false
namespace Go.Proofs.YtbmhkdcmepfmbaaGreat
open Go.RowKit
/-- the cells of strings -/
def sv (l : List (List UInt8)) : List Value := l.map fun s => .string ⟨s.toArray⟩
@[simp] theorem sv_length (l : List (List UInt8)) : (sv l).length = l.length := by simp [sv]
theorem sv_append (l r : List (List UInt8)) : sv (l ++ r) = sv l ++ sv r := by simp [sv]
theorem sv_one (l : List (List UInt8)) : ∀ u ∈ sv l, u.oneCell' = true := by
  intro u hu; simp [sv] at hu; obtain ⟨x, _, rfl⟩ := hu; rfl
theorem sv_get (l : List (List UInt8)) (j : Nat) (h : j < l.length) : (sv l)[j]? = some (.string ⟨l[j].toArray⟩) := by simp [sv, h]
/-- v reads as the strings l -/
def Ss (A : Nat → Prop) (w : World) (v : Value) (l : List (List UInt8)) : Prop := Row 1 A w v l.length (sv l) ∧ l.length * 16 ≤ lim
theorem Ss.up {A : Nat → Prop} {w w' : World} {v : Value} {l : List (List UInt8)} (h : Ss A w v l) (hb : Below w.heap.size w w') : Ss A w' v l := ⟨h.1.up hb, h.2⟩
theorem Ss.keepS {A : Nat → Prop} {w w' : World} {v : Value} {l : List (List UInt8)} (h : Ss A w v l) (hb : Same A w w') : Ss A w' v l := ⟨h.1.keepS hb, h.2⟩
theorem Ss.at {A : Nat → Prop} {w : World} {v : Value} {l : List (List UInt8)} (h : Ss A w v l) : ∃ (a : Option Addr) (c : Nat), v = .slice a l.length c ∧ l.length ≤ c ∧ (a = none → c = 0) ∧
    ∀ j (hj : j < l.length), ∃ b o, a = some ⟨b, o, none⟩ ∧ A b ∧ w.cell? ⟨b, o + j, none⟩ = some (.string ⟨l[j].toArray⟩) := by
  obtain ⟨a, c, hv, hc, ha, H⟩ := h.1.at1
  exact ⟨a, c, hv, hc, ha, fun j hj => by obtain ⟨b, o, h1, h2, h3⟩ := H j hj; exact ⟨b, o, h1, h2, by rw [h3, sv_get l j hj]⟩⟩
/-- strings of the call's own -/
def So (e : TypeId) (B : Nat) (w : World) (v : Value) (l : List (List UInt8)) : Prop := w.ownsRow B e 1 v l.length (sv l)
theorem So.ss {e : TypeId} {B : Nat} {w : World} {v : Value} {l : List (List UInt8)} (h : So e B w v l) (hl : l.length * 16 ≤ lim) : Ss (Lt w.heap.size) w v l := ⟨Row.of_own h, hl⟩
theorem So.up {e : TypeId} {B : Nat} {w w' : World} {v : Value} {l : List (List UInt8)} (h : So e B w v l) (hb : Below w.heap.size w w') : So e B w' v l := own_keep h hb (Nat.le_refl _)
theorem So.alloc {e : TypeId} {B : Nat} {w : World} {v : Value} {l : List (List UInt8)} (h : So e B w v l) (o : Obj) : So e B (w.alloc o) v l := World.ownsRow.alloc h o
theorem So.mono {e : TypeId} {B B' : Nat} {w : World} {v : Value} {l : List (List UInt8)} (h : So e B w v l) (hB : B' ≤ B) : So e B' w v l := own_mono h hB
theorem So.slice {e : TypeId} {B : Nat} {w : World} {v : Value} {l : List (List UInt8)} (h : So e B w v l) : ∃ ao c, v = .slice ao l.length c := by
  rcases h.2 with ⟨rfl, h1⟩ | ⟨g, cap, cur, rfl, _⟩
  · exact ⟨none, 0, by rw [h1]⟩
  · exact ⟨_, _, rfl⟩
theorem So.lt {e : TypeId} {B : Nat} {w : World} {v : Value} {l : List (List UInt8)} (h : So e B w v l) : ∀ k, v.ownBlock = some k → B ≤ k ∧ k < w.heap.size := World.ownsRow.lt h
theorem So.form {e : TypeId} {B : Nat} {w : World} {v : Value} {l : List (List UInt8)} (h : So e B w v l) (hl : 0 < l.length) : ∃ g cap, v = .slice (some ⟨g, 0, none⟩) l.length cap ∧ l.length ≤ cap := by
  obtain ⟨_, h | ⟨g', cap', cur, hv, hb, hg, h1, _⟩⟩ := h
  · have := h.2; omega
  · exact ⟨_, _, hv, h1⟩
theorem So.cell {e : TypeId} {B g n cap : Nat} {w : World} {l : List (List UInt8)} (h : So e B w (.slice (some ⟨g, 0, none⟩) n cap) l) (j : Nat) (hj : j < l.length) : w.cell? ⟨g, j, none⟩ = some (.string ⟨l[j].toArray⟩) := by
  have hn : n = l.length := by obtain ⟨ao, c, e⟩ := h.slice; simp at e; exact e.2.1
  subst hn
  rw [World.ownsRow.cellAt h j (by omega), sv_get l j hj]
theorem So.frozen {e : TypeId} {B g n cap : Nat} {w : World} {l : List (List UInt8)} (h : So e B w (.slice (some ⟨g, 0, none⟩) n cap) l) (j : Nat) : w.frozen? ⟨g, j, none⟩ = false := by
  have hn : n = l.length := by obtain ⟨ao, c, e⟩ := h.slice; simp at e; exact e.2.1
  subst hn
  exact World.ownsRow.frozenAt h j
theorem So.set {e : TypeId} {B g n cap : Nat} {w : World} {l : List (List UInt8)} (h : So e B w (.slice (some ⟨g, 0, none⟩) n cap) l) (j : Nat) (s : List UInt8) : So e B (w.setCell ⟨g, j, none⟩ (.string ⟨s.toArray⟩)) (.slice (some ⟨g, 0, none⟩) n cap) (l.set j s) := by
  have hn : n = l.length := by obtain ⟨ao, c, e⟩ := h.slice; simp at e; exact e.2.1
  subst hn
  have := (World.ownsRow.stored h j (.string ⟨s.toArray⟩)).1
  unfold So
  rw [List.length_set]
  have e : sv (l.set j s) = (sv l).set j (.string ⟨s.toArray⟩) := by simp [sv, List.map_set]
  rw [e]; exact this
theorem so_nil {B : Nat} {w : World} {e : TypeId} : So e B w (.slice none 0 0) [] := World.ownsRow_nil w B e 1
theorem so_empty {B : Nat} {w : World} {e : TypeId} (hB : B ≤ w.heap.size) : So e B (w.alloc (.cells #[] e)) (.slice (some ⟨w.heap.size, 0, none⟩) 0 0) [] := own_empty hB
/-- a beginning of it -/
theorem So.pre {e : TypeId} {B g n cap m : Nat} {w : World} {l : List (List UInt8)} (h : So e B w (.slice (some ⟨g, 0, none⟩) n cap) l) (hm : m ≤ l.length) : So e B w (.slice (some ⟨g, 0, none⟩) m cap) (l.take m) := by
  have hn : n = l.length := by obtain ⟨ao, c, e⟩ := h.slice; simp at e; exact e.2.1
  subst hn
  obtain ⟨h0, h | ⟨g', cap', cur, hv, hb, hg, h1, h2, h3, h4⟩⟩ := h
  · cases h.1
  · cases hv
    have hl : (l.take m).length = m := by rw [List.length_take]; omega
    refine ⟨by rw [sv_length, Nat.mul_one], .inr ⟨g, cap, cur, by rw [hl], hb, hg, by omega, h2, h3, ?_⟩⟩
    rw [Nat.mul_one] at h4 ⊢
    rw [hl]
    have : sv (l.take m) = (sv l).take m := by simp [sv, List.map_take]
    rw [this, ← h4, List.take_take]
    congr 1; omega
/-- cleared from a place on -/
theorem So.cleared {e : TypeId} {B g n cap : Nat} : ∀ (m : Nat) (w : World) (l : List (List UInt8)) (o : Nat), So e B w (.slice (some ⟨g, 0, none⟩) n cap) l → o + m ≤ l.length →
    ∃ l', So e B (w.setCells g o (List.replicate m (.string ⟨#[]⟩))) (.slice (some ⟨g, 0, none⟩) n cap) l' ∧ l'.length = l.length ∧ l'.take o = l.take o
  | 0, w, l, o, h, _ => ⟨l, h, rfl, rfl⟩
  | m + 1, w, l, o, h, hm => by
    obtain ⟨l', h1, h2, h3⟩ := So.cleared m _ (l.set o []) (o + 1) (h.set o []) (by rw [List.length_set]; omega)
    rw [List.length_set] at h2
    refine ⟨l', h1, h2, ?_⟩
    have := congrArg (List.take o) h3
    rw [List.take_take, List.take_take, Nat.min_eq_left (by omega), List.take_set_of_le (Nat.le_refl _)] at this
    exact this
theorem Tryz.info9 : (Tryz.prog.info? 9).map (fun i => (i.zero, i.size, i.bytes)) = some (some (.string ⟨#[]⟩), 1, 16) := by kernel_rfl
set_option maxRecDepth 100000 in
theorem app75 {w : World} {ops : Array Oper} {rest : List Oper} {o : Oper} {a : Act} {Q : Exit → Act → World → Prop} (hgd : o.guard = none) (s x : Operand)
    (ho : o.op = .call { callee := .builtin .append, args := #[s, x], argTypes := #[130, 130] }) {B : Nat} {v : Value} {l : List (List UInt8)} (hs : a.eval s = v) (hown : So 9 B w v l)
    {A : Nat → Prop} {u : Value} {m : List (List UInt8)} (hx : a.eval x = u) (hsrc : Ss A w u m) (hlen : (l.length + m.length) * 16 ≤ lim) (hB : B ≤ w.heap.size)
    (h : ∀ v' w', So 9 B w' v' (l ++ m) → w.grownBy w' v.ownBlock → wpList Tryz.prog ops Q rest (a.put o.dst v') w') :
    wpList Tryz.prog ops Q (o :: rest) a w := by
  unfold lim at hlen
  refine wpl_app hgd s x 130 ho Tryz.underlying130 Tryz.info9 rfl (by decide) hs hown hx hsrc.1 (sv_one m) (by unfold maxLen; omega) (by omega) hB fun v' w' h1 h2 h3 h4 => h v' w' ?_ h2
  unfold So
  rw [List.length_append, sv_append]
  exact h1
theorem below_appS {B0 B : Nat} {e : TypeId} {W w w' : World} {v : Value} {l : List (List UInt8)} (h : Below B0 W w) (hown : So e B w v l) (hg : w.grownBy w' v.ownBlock) (hB : B0 ≤ B) (hle : B0 ≤ w.heap.size) : Below B0 W w' := below_app h hown hg hB hle
/-- does s begin with p? -/
def pfx (p s : List UInt8) : Bool := decide (p.length ≤ s.length) && (s.take p.length == p)
set_option maxHeartbeats 400000 in
theorem c107 (p s : List UInt8) (w : World) (hp : p.length ≤ maxLen) (hs : s.length ≤ maxLen) : Calls Tryz.prog 123 #[.string ⟨s.toArray⟩, .string ⟨p.toArray⟩] w fun e w' => e = .returned (.bool (pfx p s)) ∧ w = w' := by
  have HB : Hid (pfx p s = (decide (p.length ≤ s.length) && (s.take p.length == p))) := rfl
  have e1 : (⟨s.toArray⟩ : ByteArray).size = s.length := by simp [ByteArray.size]
  have e2 : (⟨p.toArray⟩ : ByteArray).size = p.length := by simp [ByteArray.size]
  have e3 := ba_take s p.length
  by_cases h : p.length ≤ s.length
  · have h1 : (p.length : Int) ≤ (s.length : Int) := by omega
    have HB2 : Hid (pfx p s = (s.take p.length == p)) := by show _ = _; rw [HB.out]; simp [h]
    go_enter Tryz.func123, Tryz.ntmps123
    go_wp2
    go_ret
    exact ⟨ret_b (by rw [HB2.out]), rfl⟩
  · have h1 : ¬ (p.length : Int) ≤ (s.length : Int) := by omega
    have HB2 : Hid (pfx p s = false) := by show _ = _; rw [HB.out]; simp [h]
    go_enter Tryz.func123, Tryz.ntmps123
    go_wp2
    go_ret
    exact ⟨ret_b (by rw [HB2.out]), rfl⟩
theorem c91 (p s : List UInt8) (w : World) (hp : p.length ≤ maxLen) (hs : s.length ≤ maxLen) : Calls Tryz.prog 99 #[.string ⟨s.toArray⟩, .string ⟨p.toArray⟩] w fun e w' => e = .returned (.bool (pfx p s)) ∧ w = w' := by
  have HC := Hid.mk' (c107 p s w hp hs)
  go_enter Tryz.func99, Tryz.ntmps99
  go_wp2_with fail
  refine HC.out.mono ?_
  rintro e w1 ⟨rfl, rfl⟩
  go_wp2_with fail
  go_ret
  exact ⟨rfl, rfl⟩
theorem c90 {b : Nat} {w : World} (p s : List UInt8) (hp : p.length ≤ maxLen) (hs : s.length ≤ maxLen) (hc : w.cell? ⟨b, 0, none⟩ = some (.string ⟨p.toArray⟩)) : Calls Tryz.prog 98 #[.string ⟨s.toArray⟩, .pointer (some ⟨b, 0, none⟩)] w fun e w' => e = .returned (.bool (!pfx p s)) ∧ w = w' := by
  have HC := Hid.mk' (c91 p s w hp hs)
  go_enter Tryz.func98, Tryz.ntmps98
  go_wp2_with fail
  refine HC.out.mono ?_
  rintro e w1 ⟨rfl, rfl⟩
  go_wp2_with fail
  go_ret
  exact ⟨rfl, rfl⟩
set_option maxHeartbeats 400000 in
/-- IndexFunc with that -/
theorem c106 {A : Nat → Prop} {w : World} {v : Value} {l : List (List UInt8)} {b : Nat} {p : List UInt8} (h : Ss A w v l) (hl : ∀ s ∈ l, s.length ≤ maxLen) (hp : p.length ≤ maxLen) (hm : w.cell? ⟨b, 0, none⟩ = some (.string ⟨p.toArray⟩)) :
    Calls Tryz.prog 122 #[v, .func (.func 98) #[] #[.pointer (some ⟨b, 0, none⟩)]] w fun e w' => (∃ k : Int, e = .returned (.int .i64 k) ∧ Hid (k = -1 ∧ (∀ s ∈ l, pfx p s = true) ∨ ∃ j : Nat, k = j ∧ ∃ h : j < l.length, pfx p l[j] = false ∧ ∀ s ∈ l.take j, pfx p s = true)) ∧ w = w' := by
  obtain ⟨a, c, rfl, hc, _, H⟩ := h.at
  have H : Hid _ := H
  have hlim : l.length * 16 ≤ 140737488351232 := h.2
  have HL := Hid.mk' hl
  clear h hl
  go_enter Tryz.func122, Tryz.ntmps122
  go_wp2_with fail
  go_loop [8] (fun i => ∃ k : Nat, k ≤ l.length ∧ i = .int .i64 k ∧ Hid (∀ s ∈ l.take k, pfx p s = true)) (fun i => l.length - (intOf i).toNat)
  case atStart => exact ⟨0, by omega, rfl, Hid.mk' (by simp)⟩
  case round =>
    obtain ⟨k, hk, rfl, HF⟩ := hrel
    by_cases hlt : k < l.length
    · have hlt' : (k : Int) < (l.length : Int) := by omega
      have hl' : (l.length : Int) ≤ 140737488351232 := by omega
      obtain ⟨b', o, rfl, _, hu⟩ := H.out k hlt
      have HC := Hid.mk' (c90 p l[k] hp (HL.out _ (List.getElem_mem hlt)) hm)
      cases hd : pfx p l[k] with
      | false =>
        rw [hd] at HC
        have HR : Hid ((k : Int) = -1 ∧ (∀ s ∈ l, pfx p s = true) ∨ ∃ j : Nat, (k : Int) = j ∧ ∃ h : j < l.length, pfx p l[j] = false ∧ ∀ s ∈ l.take j, pfx p s = true) := .inr ⟨k, rfl, hlt, hd, HF.out⟩
        clear hd
        go_wp2_with fail
        refine HC.out.mono ?_
        rintro e w' ⟨rfl, rfl⟩
        go_wp2_with fail
        go_ret
        exact ⟨⟨_, rfl, HR⟩, rfl⟩
      | true =>
        rw [hd] at HC
        have HT2 : Hid (∀ s ∈ l.take (k + 1), pfx p s = true) := fun s hs => by
          rw [List.take_succ_eq_append_getElem hlt, List.mem_append, List.mem_singleton] at hs
          rcases hs with hs | rfl
          · exact HF.out s hs
          · exact hd
        clear hd
        go_wp2_with fail
        refine HC.out.mono ?_
        rintro e w' ⟨rfl, rfl⟩
        go_wp2_with fail
        go_round
        case rel => exact ⟨k + 1, by omega, by go_num, HT2⟩
        case measure => simp [intOf]; omega
    · obtain rfl : k = l.length := by omega
      have HL2 : Hid (∀ s ∈ l, pfx p s = true) := by have := HF.out; rwa [List.take_length] at this
      go_wp2_with fail
      go_ret
      exact ⟨⟨_, rfl, Hid.mk' (.inl ⟨rfl, HL2.out⟩)⟩, rfl⟩
theorem Tryz.size130 (w : World) : (sizeOf (Tryz.prog.elem 130)).run Tryz.prog w = .ok 1 w := by kernel_rfl
theorem zero9 (w : World) : (zeroValue 9).run Tryz.prog w = .ok (.string ⟨#[]⟩) w := by kernel_rfl
theorem s75_lo (w : World) (b n c l : Nat) (h1 : l < n) (h2 : n ≤ c) : (Instr.slice 130 (.slice (some ⟨b, 0, none⟩) n c) (some (.int .i64 (l : Int))) none none).run Tryz.prog w = .ok (.slice (some ⟨b, l, none⟩) (n - l) (c - l)) w := by
  rw [run_slice_l w 130 _ n c (by kernel_rfl) .i64 (l : Int) (by omega) (by omega), Tryz.size130]
  simp only [Result.andThen, Int.toNat_natCast, Go.sliced]
  rw [if_neg (by omega), Option.map_some, Nat.mul_one, addr_add, Nat.zero_add]
theorem s75_hi (w : World) (b n c h : Nat) (h1 : h ≤ n) (h2 : n ≤ c) (h3 : 0 < c) : (Instr.slice 130 (.slice (some ⟨b, 0, none⟩) n c) none (some (.int .i64 (h : Int))) none).run Tryz.prog w = .ok (.slice (some ⟨b, 0, none⟩) h c) w := by
  rw [run_slice_h w 130 _ n c (by kernel_rfl) .i64 (h : Int) (by omega) (by omega), Tryz.size130]
  simp only [Result.andThen, Int.toNat_natCast, Go.sliced, Nat.sub_zero]
  rw [if_neg (by omega), Option.map_some, Nat.zero_mul, addr_add]
theorem filter_all {p : List UInt8} {l : List (List UInt8)} (h : ∀ s ∈ l, pfx p s = true) : l.filter (pfx p) = l := List.filter_eq_self.2 h
def DelR (p : List UInt8) (l l' : List (List UInt8)) (i j : Nat) : Prop := l'.length = l.length ∧ i < j ∧ j ≤ l.length ∧ l'.take i = (l.take j).filter (pfx p) ∧ l'.drop j = l.drop j
theorem DelR.skip {p : List UInt8} {l l' : List (List UInt8)} {i j : Nat} (h : DelR p l l' i j) (hj : j < l.length) (hp : pfx p l[j] = false) : DelR p l l' i (j + 1) := by
  obtain ⟨h1, h2, h3, h4, h5⟩ := h
  refine ⟨h1, by omega, by omega, ?_, ?_⟩
  · rw [h4, List.take_succ_eq_append_getElem hj, List.filter_append]; simp [hp]
  · rw [← List.drop_drop, h5, List.drop_drop]
theorem DelR.put {p : List UInt8} {l l' : List (List UInt8)} {i j : Nat} (h : DelR p l l' i j) (hj : j < l.length) (hp : pfx p l[j] = true) : DelR p l (l'.set i l[j]) (i + 1) (j + 1) := by
  obtain ⟨h1, h2, h3, h4, h5⟩ := h
  refine ⟨by rw [List.length_set]; exact h1, by omega, by omega, ?_, ?_⟩
  · rw [List.take_succ_eq_append_getElem (by rw [List.length_set]; omega), List.take_set_of_le (Nat.le_refl _), h4, List.getElem_set_self, List.take_succ_eq_append_getElem hj, List.filter_append]; simp [hp]
  · rw [List.drop_set_of_lt (by omega), ← List.drop_drop, h5, List.drop_drop]
theorem DelR.get {p : List UInt8} {l l' : List (List UInt8)} {i j : Nat} (h : DelR p l l' i j) (hj : j < l.length) : ∃ h' : j < l'.length, l'[j] = l[j] := by
  obtain ⟨h1, h2, h3, h4, h5⟩ := h
  have h' : j < l'.length := by omega
  refine ⟨h', ?_⟩
  have := congrArg (fun x => x[0]?) h5
  simp only [List.getElem?_drop, Nat.add_zero] at this
  rw [List.getElem?_eq_getElem h', List.getElem?_eq_getElem hj] at this
  exact Option.some.inj this
set_option maxRecDepth 100000 in
set_option maxHeartbeats 2000000 in
/-- DeleteFunc with that -/
theorem c89 {B b : Nat} {w : World} {v : Value} {l : List (List UInt8)} {p : List UInt8} (h : So 9 B w v l) (hlm : l.length * 16 ≤ lim) (hl : ∀ s ∈ l, s.length ≤ maxLen) (hp : p.length ≤ maxLen) (hm : w.cell? ⟨b, 0, none⟩ = some (.string ⟨p.toArray⟩)) (hb : b < B) :
    Calls Tryz.prog 97 #[v, .func (.func 98) #[] #[.pointer (some ⟨b, 0, none⟩)]] w fun e w' => ∃ v', e = .returned v' ∧ So 9 B w' v' (l.filter (pfx p)) ∧ Wb (fun k => v.ownBlock = some k) w w' := by
  have HI := Hid.mk' (c106 (h.ss hlm) hl hp hm)
  have HL := Hid.mk' hl
  have HS := Hid.mk' h
  obtain ⟨ao, c, rfl⟩ := h.slice
  have hlim : l.length * 16 ≤ 140737488351232 := hlm
  clear h hl
  go_enter Tryz.func97, Tryz.ntmps97
  go_wp2_with fail
  refine HI.out.mono ?_
  rintro e w' ⟨⟨k, rfl, HK⟩, rfl⟩
  clear HI
  rcases HK.out with ⟨rfl, hall⟩ | ⟨j, rfl, hj, hjp, hbef⟩
  · have HA := Hid.mk' (filter_all hall)
    clear HK hall
    go_wp2_with fail
    go_ret
    exact ⟨_, rfl, by rw [HA.out]; exact HS.out, Wb.refl _ _⟩
  · have HR : Hid (DelR p l l j (j + 1)) := ⟨rfl, by omega, by omega, by rw [List.take_succ_eq_append_getElem hj, List.filter_append, filter_all hbef]; simp [hjp], rfl⟩
    have hj' : (j : Int) < (l.length : Int) := by omega
    have hl' : (l.length : Int) ≤ 140737488351232 := by omega
    have hne : ((j : Int) == -1) = false := by rw [beq_eq_false_iff_ne]; omega
    obtain ⟨g, cap, ef, hcap⟩ := HS.out.form (by omega)
    simp only [Value.slice.injEq, true_and] at ef
    obtain ⟨rfl, rfl⟩ := ef
    have HG : Hid (B ≤ g ∧ g < w.heap.size) := HS.out.lt g rfl
    clear HK hbef hjp
    go_wp2_with fail
    go_loopw [5, 6] (fun i t wr => ∃ (i' t' : Nat) (l' : List (List UInt8)), i = .int .i64 i' ∧ t = .int .i64 t' ∧ t' ≤ l.length ∧ i' < t' ∧ Hid (DelR p l l' i' t') ∧ Hid (So 9 B wr (.slice (some ⟨g, 0, none⟩) l.length c) l') ∧ Hid (Wb (fun k => k = g) w wr)) (fun _ t _ => l.length - (intOf t).toNat)
    case atStart => exact ⟨j, j + 1, l, rfl, by go_num, by omega, by omega, HR, HS, Wb.refl _ _⟩
    case round =>
      clear HR HS hj hj' hne
      obtain ⟨i, t, l', rfl, rfl, hts, hit, HR, HS, HW⟩ := hrel
      by_cases hlt : t < l.length
      · have hlt' : (t : Int) < (l.length : Int) := by omega
        have hit' : (i : Int) < (l.length : Int) := by omega
        obtain ⟨h5, h6⟩ := HR.out.get hlt
        have hc := HS.out.cell t h5
        rw [h6] at hc
        have hpc : wr.cell? ⟨b, 0, none⟩ = some (.string ⟨p.toArray⟩) := by
          have hbw : b < w.heap.size := World.block_lt_of_cell? w ⟨b, 0, none⟩ hm
          rw [World.cell?_of_block (w := w) (a := ⟨b, 0, none⟩) (HW.out.block b hbw (by have := HG.out.1; omega))]; exact hm
        have HC := Hid.mk' (c90 p l[t] hp (HL.out _ (List.getElem_mem hlt)) hpc)
        obtain ⟨z, hz⟩ : ∃ z, wr.cell? ⟨g, i, none⟩ = some z := ⟨_, HS.out.cell i (by rw [HR.out.1]; omega)⟩
        have hf := HS.out.frozen i
        cases hd : pfx p l[t] with
        | true =>
          rw [hd] at HC
          have HR2 := Hid.mk' (HR.out.put hlt hd)
          have HS2 := Hid.mk' (HS.out.set i l[t])
          have HW2 := Hid.mk' (HW.out.trans (Wb.set (X := fun k => k = g) wr g i (.string ⟨l[t].toArray⟩) rfl))
          clear hd h6
          go_wp2_with fail
          refine HC.out.mono ?_
          rintro e w' ⟨rfl, rfl⟩
          go_wp2_with fail
          go_roundw
          case rel => exact ⟨i + 1, t + 1, _, by go_num, by go_num, by omega, by omega, HR2, HS2, HW2⟩
          case measure => simp [intOf]; omega
        | false =>
          rw [hd] at HC
          have HR2 := Hid.mk' (HR.out.skip hlt hd)
          clear hd h6
          go_wp2_with fail
          refine HC.out.mono ?_
          rintro e w' ⟨rfl, rfl⟩
          go_wp2_with fail
          go_roundw
          case rel => exact ⟨i, t + 1, l', rfl, by go_num, by omega, by omega, HR2, HS, HW⟩
          case measure => simp [intOf]; omega
      · obtain rfl : t = l.length := by omega
        have S1 := s75_lo wr g l.length c i hit hcap
        have hi3 : i < l'.length := by rw [HR.out.1]; exact hit
        have HLN : Hid (l'.length = l.length) := HR.out.1
        have C1 : ∀ ty, (Builtin.clear_ #[130] ty #[.slice (some ⟨g, i, none⟩) (l.length - i) (c - i)]).run Tryz.prog wr = .ok (.tuple #[]) (wr.setCells g i (List.replicate (l.length - i) (.string ⟨#[]⟩))) := fun ty =>
          Lib.run_clear_slice wr 130 9 ty _ Tryz.underlying130 zero9 rfl rfl g i (l.length - i) (c - i) (by omega) (fun t ht => by rw [HS.out.cell (i + t) (by rw [HLN.out]; omega)]; rfl) (fun t ht => HS.out.frozen _)
        obtain ⟨l2, hs2, hl2, ht2⟩ := So.cleared (l.length - i) wr l' i HS.out (by rw [HLN.out]; omega)
        have X2 := HW.out.trans (setCells_wb (b := g) (List.replicate (l.length - i) (.string ⟨#[]⟩)) i wr)
        obtain ⟨W2, hW2⟩ : ∃ W2, W2 = wr.setCells g i (List.replicate (l.length - i) (.string ⟨#[]⟩)) := ⟨_, rfl⟩
        rw [← hW2] at C1 hs2 X2
        have S2 := s75_hi W2 g l.length c i (by omega) hcap (by omega)
        have HF : Hid (So 9 B W2 (.slice (some ⟨g, 0, none⟩) i c) (l.filter (pfx p))) := by
          have h7 := hs2.pre (m := i) (by rw [hl2, HLN.out]; omega)
          rw [ht2, HR.out.2.2.2.1, List.take_length] at h7
          exact h7
        have X2 := Hid.mk' X2
        clear hW2 hs2 hl2 ht2
        go_wp2_with fail
        go_ret
        exact ⟨_, rfl, HF.out, X2.out.mono fun k hk => by subst hk; rfl⟩
theorem take_filter {α : Type} (p : α → Bool) (l : List α) (k : Nat) (h : k < l.length) : (l.take (k + 1)).filter p = (l.take k).filter p ++ if p l[k] then [l[k]] else [] := by
  rw [List.take_succ_eq_append_getElem h, List.filter_append]
  cases hp : p l[k] <;> simp [hp]
theorem one_ss {w : World} (x : List UInt8) : Ss (Lt (w.heap.size + 1)) (w.alloc (.cells #[.string ⟨x.toArray⟩] 9)) (.slice (some ⟨w.heap.size, 0, none⟩) 1 1) [x] := ⟨row_one, by unfold lim; simp⟩
end Go.Proofs.YtbmhkdcmepfmbaaGreat
set_option linter.unusedVariables false
set_option linter.unusedSimpArgs false
namespace Go.Proofs.YtbmhkdcmepfmbaaGreat
open Go.RowKit
attribute [local go_sem ↓] Go.wp_at_zero Go.wp_at_succ
def fnm (F : Fl) (p : By) : List By := (F.map (·.1)).filter (pfx p)
theorem fnm_take (l : Fl) (p : By) (k : Nat) (h : k < l.length) : fnm (l.take (k + 1)) p = fnm (l.take k) p ++ if pfx p l[k].1 then [l[k].1] else [] := by
  unfold fnm
  rw [List.map_take, List.map_take, take_filter _ _ _ (by simpa using h)]
  simp
theorem fnm_len (l : Fl) (p : By) (k : Nat) : (fnm (l.take k) p).length ≤ l.length := by
  unfold fnm
  refine Nat.le_trans (List.length_filter_le _ _) ?_
  simp
  exact Nat.min_le_right _ _
theorem fnm_le (l : Fl) (p : By) : (fnm l p).length ≤ l.length := by
  unfold fnm
  refine Nat.le_trans (List.length_filter_le _ _) ?_
  simp
def RlPost (w : World) (l : List By) (e : Ending) (w' : World) : Prop := ∃ u, e = .returned u ∧ So 9 w.heap.size w' u l ∧ Below w.heap.size w w'
def arD (d : Dm) (n : Int) : Dm := { d with armed := decide (0 ≤ n), left := n }
/-- L are the keys of f, rising -/
def Keys {α : Type} (f : List UInt8 → Option α) (n : Nat) (L : List (List UInt8)) : Prop := L.Pairwise (fun a b => a < b) ∧ (∀ s, s ∈ L ↔ (f s).isSome = true) ∧ L.length = n ∧ ∀ s ∈ L, s.length ≤ maxLen
theorem lt_of_le_ne {a b : List UInt8} (h : a ≤ b) (hn : a ≠ b) : a < b := by
  refine Classical.byContradiction fun h1 => hn (List.le_antisymm h (List.not_lt.1 h1))
theorem rising_of {l : List (List UInt8)} (hn : l.Nodup) : (l.mergeSort leB).Pairwise (fun a b => a < b) := by
  have tr : ∀ a b c : List UInt8, leB a b = true → leB b c = true → leB a c = true := fun a b c h1 h2 => by simp only [leB, decide_eq_true_eq] at *; exact List.le_trans h1 h2
  have tot : ∀ a b : List UInt8, (leB a b || leB b a) = true := fun a b => by simp only [leB, Bool.or_eq_true, decide_eq_true_eq]; exact List.le_total a b
  have h1 := List.pairwise_mergeSort tr tot l
  have h2 : (l.mergeSort leB).Nodup := (List.mergeSort_perm l leB).nodup_iff.2 hn
  refine (h1.and h2).imp fun {a b} h => lt_of_le_ne (by simpa [leB] using h.1) h.2
theorem keys_of {w : World} {M n : Nat} {g : List UInt8 → Option Value} (hm : MapF Tryz.prog 9 w M g n) : ∃ D : DataW Value, w.ownsMap Tryz.prog 9 hR M n D ∧ Maps.size D = n ∧ ∀ ss : List (List UInt8), ss.Perm (strKeys D) → Keys g n (ss.mergeSort leB) := by
  obtain ⟨D, h, hs, hT, hf⟩ := hm
  refine ⟨D, h, hs, fun ss hp => ?_⟩
  have hle := strKeys_le h Tryz.underlying9
  obtain ⟨es, hD, hpw⟩ := hT
  obtain ⟨es', hD', hko⟩ := h.keysOf
  obtain rfl : es = es' := by rw [hD] at hD'; simpa using hD'
  have hk : ∀ p ∈ es, ∃ x, p.1 = .string x := fun p hp => by obtain ⟨v, hv⟩ := hko p hp; obtain ⟨x, _, hx, _⟩ := Maps.keyOf_str Tryz.underlying9 hv; exact ⟨x, hx⟩
  have hnd : (strKeys D).Nodup := by
    subst hD
    show (es.map fun p => Go.strOf p.1).Nodup
    refine List.pairwise_map.2 (hpw.imp_of_mem fun {p q} hp' hq' hne e => hne ?_)
    obtain ⟨a, ha⟩ := hk p hp'
    obtain ⟨b, hb⟩ := hk q hq'
    rw [ha, hb] at e ⊢
    exact congrArg _ e
  have hmem : ∀ x, x ∈ strKeys D ↔ (g x).isSome = true := fun x => by
    rw [← (hf x).1]
    subst hD
    rw [Maps.has_eq, List.any_eq_true]
    show x ∈ (es.map fun p => Go.strOf p.1) ↔ _
    rw [List.mem_map]
    constructor
    · rintro ⟨p, hp', rfl⟩
      obtain ⟨a, ha⟩ := hk p hp'
      exact ⟨p, hp', by rw [ha]; simp [Lit.sameKey, Go.strOf]⟩
    · rintro ⟨p, hp', hs⟩
      obtain ⟨a, ha⟩ := hk p hp'
      rw [ha] at hs
      exact ⟨p, hp', by rw [ha]; simpa [Lit.sameKey, Go.strOf] using hs⟩
  have hps := (List.mergeSort_perm ss leB).trans hp
  refine ⟨rising_of (hp.nodup_iff.2 hnd), fun s => by rw [hps.mem_iff, hmem], ?_, fun s hs => hle s (hps.mem_iff.1 hs)⟩
  rw [hps.length_eq, ← hs, hD]
  show (es.map fun p => Go.strOf p.1).length = _
  simp [Maps.size]
theorem Keys.map {α β : Type} {f : List UInt8 → Option α} {g : List UInt8 → Option β} {n : Nat} {L : List (List UInt8)} (h : Keys f n L) (he : ∀ s, (f s).isSome = (g s).isSome) : Keys g n L := ⟨h.1, fun s => by rw [h.2.1 s, he s], h.2.2⟩
theorem so_of_enc {B : Nat} {w : World} {v : Value} {ss : List (List UInt8)} (h : w.ownsRow B 9 1 v ss.length ((ss.mergeSort leB).map encStr)) : So 9 B w v (ss.mergeSort leB) := by
  unfold So
  rw [List.length_mergeSort]
  exact h

/-- two rising lists of the same names are one -/
theorem rising_eq {l m : List (List UInt8)} (hl : l.Pairwise fun a b => a < b) (hm : m.Pairwise fun a b => a < b) (h : ∀ x, x ∈ l ↔ x ∈ m) : l = m := by
  have nd : ∀ {l : List (List UInt8)}, (l.Pairwise fun a b => a < b) → l.Nodup := fun hl => hl.imp fun {a b} hab e => by subst e; exact by_irr _ hab
  refine List.Perm.eq_of_pairwise (le := fun a b => a < b) (fun a b _ _ h1 h2 => absurd (by_tr h1 h2) (by_irr _)) hl hm ((List.perm_ext_iff_of_nodup (nd hl) (nd hm)).2 h)

theorem keys_fl {F : Fl} (hF : Srt F) {n : Nat} {L : List By} (h : Keys (fget F) n L) : L = F.map (·.1) := by
  refine rising_eq h.1 (List.pairwise_map.2 hF) fun x => ?_
  rw [h.2.1 x]
  constructor
  · intro hx
    obtain ⟨l, hl⟩ := Option.isSome_iff_exists.1 hx
    exact List.mem_map.2 ⟨_, fget_mem hl, rfl⟩
  · intro hx
    obtain ⟨t, ht, rfl⟩ := List.mem_map.1 hx
    rw [fget_of_mem hF (s := t.1) (l := t.2) ht]; rfl
def lsD (d : Dm) (p : By) : List By := if d.dead then [] else fnm d.seen p
set_option maxRecDepth 100000 in
set_option maxHeartbeats 2000000 in
/-- drive.List -/
theorem list_any {M D : Nat → Prop} {w : World} {b : Nat} {d : Dm} (p : By) (h : DrIs M D w b d) (hp : p.length ≤ maxLen) (hn : d.seen.length ≤ 1000000) :
    Calls Tryz.prog 72 #[.pointer (some ⟨b, 0, none⟩), .string ⟨p.toArray⟩] w (RlPost w (lsD d p)) := by
  have hmf : ∀ (fn : Fn) (first cap : Array Value) (w : World), (Instr.makeFunc fn first cap).run Tryz.prog w = .ok (.func fn first cap) w := fun _ _ _ _ => rfl
  obtain ⟨ms, mv, q, hb, h1, h2, h3, h4⟩ := h.ex
  obtain ⟨⟨c0, c1, c2, c3, c4, c5, c6⟩, c7⟩ := box7 hb
  have hbl : b < w.heap.size := (Array.getElem?_eq_some_iff.1 hb).1
  have HL : Hid (lsD d p = if d.dead = true then [] else fnm d.seen p) := rfl
  have HF := Hid.mk' h2
  have HN := Hid.mk' hn
  generalize lsD d p = LS at *
  clear h hb h1 h2 h3 h4 c0 c2 c3 c4 c5 c7 hn
  generalize d.dead = dd at *
  generalize d.seen = F at *
  cases dd
  case true =>
    have hl : LS = [] := by rw [HL.out]; rfl
    subst hl
    clear HL
    go_enter Tryz.func72, Tryz.ntmps72
    go_wp2_with fail
    go_ret
    exact ⟨_, rfl, so_nil, up_alloc _ _⟩
  case false =>
  have hl : LS = fnm F p := by rw [HL.out]; rfl
  subst hl
  clear HL
  have HC : Hid ((w.alloc (.cells #[.string ⟨p.toArray⟩] 9)).cell? ⟨w.heap.size, 0, none⟩ = some (.string ⟨p.toArray⟩)) := by show _ = _; simp
  have HZ : Hid ((w.alloc (.cells #[.string ⟨p.toArray⟩] 9)).heap.size = w.heap.size + 1) := by show _ = _; simp
  have HW := Hid.mk' (up_alloc w (.cells #[.string ⟨p.toArray⟩] 9))
  rcases HF.out with ⟨rfl, rfl⟩ | ⟨k, rfl, hMk, hS, g, hm, hg⟩
  · clear HF
    go_enter Tryz.func72, Tryz.ntmps72
    go_wp2_with fail
    obtain ⟨W, hW⟩ : ∃ W, W = w.alloc (.cells #[.string ⟨p.toArray⟩] 9) := ⟨_, rfl⟩
    rw [← hW] at HC HZ HW ⊢
    clear hW
    refine (callsIn_wide.1 (Tryz.maps_Keys_96 none W)).mono ?_
    rintro e w1 ⟨rfl, rfl⟩
    go_wp2_with fail
    refine (callsIn_wide.1 (Tryz.slices_Sorted_keys_nil_95_96 W)).mono ?_
    rintro e w2 ⟨v, ss, rfl, rfl, hrow, hv, hb2⟩
    have hso : So 9 (W.alloc (.cells #[.map none] 71)).heap.size w2 v [] := by have := so_of_enc hrow; simpa using this
    obtain ⟨va, vc, ev⟩ := hso.slice
    subst ev
    have HX := Hid.mk' (bt HW.out (bt (up_alloc W _) hb2))
    have HD := Hid.mk' (c89 (p := p) hso (by decide) (by simp) hp (by rw [cell_later (bt (up_alloc W _) hb2) HC.out]) (by have := HZ.out; simp; omega))
    have HS := Hid.mk' hso
    clear hrow hv hb2 hso
    go_wp2_with fail
    refine HD.out.mono ?_
    rintro e w3 ⟨v', rfl, h1, h2⟩
    have H1 := Hid.mk' h1
    have H2 := Hid.mk' h2
    clear h1 h2 HD
    go_wp2_with fail
    go_ret
    refine ⟨_, rfl, H1.out.mono (by have := HZ.out; simp; omega), ?_⟩
    exact HX.out.trans (H2.out.below HX.out.size fun k hk => by have := (HS.out.lt k hk).1; have := HZ.out; simp at *; omega)
  · have HG := Hid.mk' hg
    have HM := Hid.mk' hm
    have HSrt := Hid.mk' hS
    clear hg hm HF hMk hS
    go_enter Tryz.func72, Tryz.ntmps72
    go_wp2_with fail
    obtain ⟨W, hW⟩ : ∃ W, W = w.alloc (.cells #[.string ⟨p.toArray⟩] 9) := ⟨_, rfl⟩
    rw [← hW] at HC HZ HW ⊢
    clear hW
    obtain ⟨Dd, hD, hDs, hK⟩ := keys_of (HM.out.block (HW.out.block k HM.out.lt))
    have HK := Hid.mk' hK
    have HS := Hid.mk' (Tryz.slices_Sorted_keys_95_96 k F.length Dd hR W hD (by rw [hDs]; have := HN.out; unfold maxLen; omega) (by rw [hDs]; have := HN.out; omega))
    clear hD hDs hK
    refine (callsIn_wide.1 (Tryz.maps_Keys_96 (some k) W)).mono ?_
    rintro e w1 ⟨rfl, rfl⟩
    go_wp2_with fail
    refine (callsIn_wide.1 HS.out).mono ?_
    rintro e w2 ⟨v, ss, rfl, hS, hrow, hv, hb2⟩
    have HLk := HK.out ss hS
    have hso := so_of_enc hrow
    generalize ss.mergeSort leB = L at *
    have HLk := Hid.mk' HLk
    have HLF : Hid (L = F.map (·.1)) := keys_fl HSrt.out (HLk.out.map fun s => by
      rcases HG.out s with ⟨a1, a2⟩ | ⟨x, y, a1, a2, _⟩ <;> rw [a1, a2] <;> rfl)
    obtain ⟨va, vc, ev⟩ := hso.slice
    subst ev
    have HX := Hid.mk' (bt HW.out (bt (up_alloc W _) hb2))
    have HD := Hid.mk' (c89 (p := p) hso (by rw [HLk.out.2.2.1]; have := HN.out; unfold lim; omega) HLk.out.2.2.2 hp (by rw [cell_later (bt (up_alloc W _) hb2) HC.out]) (by have := HZ.out; simp; omega))
    have HSo := Hid.mk' hso
    clear hrow hv hb2 HS HK hso hS
    go_wp2_with fail
    refine HD.out.mono ?_
    rintro e w3 ⟨v', rfl, h1, h2⟩
    have H1 := Hid.mk' h1
    have H2 := Hid.mk' h2
    clear h1 h2 HD
    go_wp2_with fail
    go_ret
    refine ⟨_, rfl, ?_, ?_⟩
    · have h1 := H1.out
      rw [HLF.out] at h1
      exact So.mono h1 (by have := HZ.out; simp; omega)
    · exact HX.out.trans (H2.out.below HX.out.size fun k hk => by have := (HSo.out.lt k hk).1; have := HZ.out; simp at *; omega)
/-- drive.Dead -/
theorem dead_any {M D : Nat → Prop} {w : World} {b : Nat} {d : Dm} (h : DrIs M D w b d) : Calls Tryz.prog 27 #[.pointer (some ⟨b, 0, none⟩)] w fun E w' => E = .returned (.bool d.dead) ∧ w = w' := by
  obtain ⟨ms, mv, q, hb, h1, h2, h3, h4⟩ := h.ex
  obtain ⟨⟨c0, c1, c2, c3, c4, c5, c6⟩, c7⟩ := box7 hb
  clear h h1 h2 h3 h4 hb c0 c1 c2 c3 c4 c5
  generalize d.dead = x at *
  go_enter Tryz.func27, Tryz.ntmps27
  go_wp2
  go_ret
  exact ⟨rfl, rfl⟩
def szD (d : Dm) (n : By) : Int := if d.dead then 0 else ((foz d.seen n).length : Int)
/-- drive.Size -/
theorem size_any {M D : Nat → Prop} {w : World} {b : Nat} {d : Dm} (n : By) (h : DrIs M D w b d) (hn : n.length ≤ maxLen) : Calls Tryz.prog 59 #[.pointer (some ⟨b, 0, none⟩), .string ⟨n.toArray⟩] w fun E w' => E = .returned (.int .i64 (szD d n)) ∧ w = w' := by
  obtain ⟨ms, mv, q, hb, h1, h2, h3, h4⟩ := h.ex
  obtain ⟨⟨c0, c1, c2, c3, c4, c5, c6⟩, c7⟩ := box7 hb
  obtain ⟨v0, _, hlk, hv0, _⟩ := h2.look n hn
  obtain ⟨va, vc, rfl, _⟩ := hv0.at
  have HS : Hid (szD d n = if d.dead = true then 0 else ((foz d.seen n).length : Int)) := rfl
  generalize szD d n = z at *
  clear h h1 h2 h3 h4 hb c0 c2 c3 c4 c5 hv0
  generalize d.dead = x at *
  cases x
  · have hz : z = ((foz d.seen n).length : Int) := by rw [HS.out]; rfl
    subst hz
    clear HS
    go_enter Tryz.func59, Tryz.ntmps59
    go_wp2
    go_ret
    exact ⟨rfl, rfl⟩
  · have hz : z = 0 := by rw [HS.out]; rfl
    subst hz
    clear HS
    go_enter Tryz.func59, Tryz.ntmps59
    go_wp2
    go_ret
    exact ⟨rfl, rfl⟩
set_option maxRecDepth 100000 in
set_option maxHeartbeats 2000000 in
/-- drive.Arm -/
theorem arm_any {M D : Nat → Prop} {w : World} {b : Nat} {d : Dm} (n : Int) (h : DrIs M D w b d) (hn : n ≤ 9223372036854775807) : Calls Tryz.prog 26 #[.pointer (some ⟨b, 0, none⟩), .int .i64 n] w fun E w' => E = .returned (.tuple #[]) ∧ Turned M D w b (arD d n) w' := by
  obtain ⟨ms, mv, q, hb, h1, h2, h3, h4⟩ := h.ex
  obtain ⟨⟨c0, c1, c2, c3, c4, c5, c6⟩, c7⟩ := box7 hb
  have HB := Hid.mk' (box7_set (o := 5) (box7_set (o := 4) hb (.bool (decide (0 ≤ n)))) (.int .i64 n))
  have HT : Hid (Turned M D w b (arD d n) ((w.setCell ⟨b, 4, none⟩ (.bool (decide (0 ≤ n)))).setCell ⟨b, 5, none⟩ (.int .i64 n))) := by
    have hw : Wb (fun k => k = b) w ((w.setCell ⟨b, 4, none⟩ (.bool (decide (0 ≤ n)))).setCell ⟨b, 5, none⟩ (.int .i64 n)) := (Wb.set (X := fun k => k = b) _ _ _ _ rfl).trans (Wb.set _ _ _ _ rfl)
    refine DrIs.turned (DrIs.boxed (ms := ms) (mv := mv) (q := q) hw HB.out h1 h2 h3 h4 h.hD h.hM fun hh => ?_) hw
    have : 0 ≤ n := by simpa [arD] using hh
    exact ⟨this, hn⟩
  clear h h1 h2 h3 h4 hb hn HB
  go_enter Tryz.func26, Tryz.ntmps26
  go_wp2_with fail
  go_end0
  exact ⟨rfl, HT.out⟩
end Go.Proofs.YtbmhkdcmepfmbaaGreat
