/- Written by a program of ours (wip/tools/aigen.py): each function of the table is the program's. -/
import Derived.Test.YtncnpgakflmibaaAi15
import Derived.Test.YtncnpgakflmibaaCode
import Derived.Test.YtncnpgakflmibaaProg
import Derived.KernelRfl
namespace Go.Proofs.Ytncnpgakflmibaa.Ai
theorem ok_quoinlaw13_SizeBoxes : okFun Try.prog K.quoinlaw13_SizeBoxes C.quoinlaw13_SizeBoxes = true := by kernel_rfl
theorem ok_quoinlaw13_SizeNested : okFun Try.prog K.quoinlaw13_SizeNested C.quoinlaw13_SizeNested = true := by kernel_rfl
theorem ok_quoinlaw9_Tame : okFun Try.prog K.quoinlaw9_Tame C.quoinlaw9_Tame = true := by kernel_rfl
theorem ok_quoinref4_Initial : okFun Try.prog K.quoinref4_Initial C.quoinref4_Initial = true := by kernel_rfl
theorem ok_size_Outer : okFun Try.prog K.size_Outer C.size_Outer = true := by kernel_rfl
theorem ok_size_Least : okFun Try.prog K.size_Least C.size_Least = true := by kernel_rfl
theorem ok_size_Most : okFun Try.prog K.size_Most C.size_Most = true := by kernel_rfl
theorem ok_quoinlaw13_awake : okFun Try.prog K.quoinlaw13_awake C.quoinlaw13_awake = true := by kernel_rfl
theorem ok_quoinlaw10_Runs : okFun Try.prog K.quoinlaw10_Runs C.quoinlaw10_Runs = true := by kernel_rfl
theorem ok_size_content : okFun Try.prog K.size_content C.size_content = true := by kernel_rfl
theorem ok_size_Clamp : okFun Try.prog K.size_Clamp C.size_Clamp = true := by kernel_rfl
theorem ok_size_Min : okFun Try.prog K.size_Min C.size_Min = true := by kernel_rfl
theorem ok_size_Max : okFun Try.prog K.size_Max C.size_Max = true := by kernel_rfl
theorem ok_size_fixed : okFun Try.prog K.size_fixed C.size_fixed = true := by kernel_rfl
theorem ok_whit_Glyphs : okFun Try.prog K.whit_Glyphs C.whit_Glyphs = true := by kernel_rfl
theorem ok_brk_Least : okFun Try.prog K.brk_Least C.brk_Least = true := by kernel_rfl
theorem ok_brk_Most : okFun Try.prog K.brk_Most C.brk_Most = true := by kernel_rfl
theorem ok_size_of : okFun Try.prog K.size_of C.size_of = true := by kernel_rfl
theorem ok_whit_all : okFun Try.prog K.whit_all C.whit_all = true := by kernel_rfl
theorem ok_whit_blank : okFun Try.prog K.whit_blank C.whit_blank = true := by kernel_rfl
theorem ok_brk_rows : okFun Try.prog K.brk_rows C.brk_rows = true := by kernel_rfl
theorem ok_brk_Least_1 : okFun Try.prog K.brk_Least_1 C.brk_Least_1 = true := by kernel_rfl
theorem ok_brk_Most_1 : okFun Try.prog K.brk_Most_1 C.brk_Most_1 = true := by kernel_rfl
theorem ok_unit_Pct : okFun Try.prog K.unit_Pct C.unit_Pct = true := by kernel_rfl
theorem ok_whit_glyph : okFun Try.prog K.whit_glyph C.whit_glyph = true := by kernel_rfl
theorem ok_unit_Hold : okFun Try.prog K.unit_Hold C.unit_Hold = true := by kernel_rfl
theorem ok_unit_nearest : okFun Try.prog K.unit_nearest C.unit_nearest = true := by kernel_rfl
theorem ok_unit_within : okFun Try.prog K.unit_within C.unit_within = true := by kernel_rfl
theorem ok_strings_IndexByte : okFun Try.prog K.strings_IndexByte C.strings_IndexByte = true := by kernel_rfl
theorem ok_gaug_Of : okFun Try.prog K.gaug_Of C.gaug_Of = true := by kernel_rfl
theorem ok_unit_floor : okFun Try.prog K.unit_floor C.unit_floor = true := by kernel_rfl
theorem ok_stringslite_IndexByte : okFun Try.prog K.stringslite_IndexByte C.stringslite_IndexByte = true := by kernel_rfl
theorem all_in {f : Nat} {af : AFun} : ∀ {l : List (Nat × AFun)}, l.lookup f = some af → (∀ p ∈ l, okFun Try.prog p.1 p.2 = true) → okFun Try.prog f af = true
  | [], h, _ => by simp at h
  | (k, x) :: l, h, hl => by
    rw [List.lookup_cons] at h
    split at h
    · rename_i e
      have := eq_of_beq e
      subst this
      obtain rfl := Option.some.inj h
      exact hl _ List.mem_cons_self
    · exact all_in h fun p hp => hl p (List.mem_cons_of_mem _ hp)
theorem envOk : EnvOk Try.prog C.env := fun f af h => all_in h fun p hp => by
  unfold C.table at hp
  rcases List.mem_cons.1 hp with rfl | hp
  · exact ok_quoinlaw13_SizeBoxes
  rcases List.mem_cons.1 hp with rfl | hp
  · exact ok_quoinlaw13_SizeNested
  rcases List.mem_cons.1 hp with rfl | hp
  · exact ok_quoinlaw9_Tame
  rcases List.mem_cons.1 hp with rfl | hp
  · exact ok_quoinref4_Initial
  rcases List.mem_cons.1 hp with rfl | hp
  · exact ok_size_Outer
  rcases List.mem_cons.1 hp with rfl | hp
  · exact ok_size_Least
  rcases List.mem_cons.1 hp with rfl | hp
  · exact ok_size_Most
  rcases List.mem_cons.1 hp with rfl | hp
  · exact ok_quoinlaw13_awake
  rcases List.mem_cons.1 hp with rfl | hp
  · exact ok_quoinlaw10_Runs
  rcases List.mem_cons.1 hp with rfl | hp
  · exact ok_size_content
  rcases List.mem_cons.1 hp with rfl | hp
  · exact ok_size_Clamp
  rcases List.mem_cons.1 hp with rfl | hp
  · exact ok_size_Min
  rcases List.mem_cons.1 hp with rfl | hp
  · exact ok_size_Max
  rcases List.mem_cons.1 hp with rfl | hp
  · exact ok_size_fixed
  rcases List.mem_cons.1 hp with rfl | hp
  · exact ok_whit_Glyphs
  rcases List.mem_cons.1 hp with rfl | hp
  · exact ok_brk_Least
  rcases List.mem_cons.1 hp with rfl | hp
  · exact ok_brk_Most
  rcases List.mem_cons.1 hp with rfl | hp
  · exact ok_size_of
  rcases List.mem_cons.1 hp with rfl | hp
  · exact ok_whit_all
  rcases List.mem_cons.1 hp with rfl | hp
  · exact ok_whit_blank
  rcases List.mem_cons.1 hp with rfl | hp
  · exact ok_brk_rows
  rcases List.mem_cons.1 hp with rfl | hp
  · exact ok_brk_Least_1
  rcases List.mem_cons.1 hp with rfl | hp
  · exact ok_brk_Most_1
  rcases List.mem_cons.1 hp with rfl | hp
  · exact ok_unit_Pct
  rcases List.mem_cons.1 hp with rfl | hp
  · exact ok_whit_glyph
  rcases List.mem_cons.1 hp with rfl | hp
  · exact ok_unit_Hold
  rcases List.mem_cons.1 hp with rfl | hp
  · exact ok_unit_nearest
  rcases List.mem_cons.1 hp with rfl | hp
  · exact ok_unit_within
  rcases List.mem_cons.1 hp with rfl | hp
  · exact ok_strings_IndexByte
  rcases List.mem_cons.1 hp with rfl | hp
  · exact ok_gaug_Of
  rcases List.mem_cons.1 hp with rfl | hp
  · exact ok_unit_floor
  rcases List.mem_cons.1 hp with rfl | hp
  · exact ok_stringslite_IndexByte
  simp at hp
end Go.Proofs.Ytncnpgakflmibaa.Ai
