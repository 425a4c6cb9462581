import Derived.Test.YtgkokjkoifdbnaaGreatTab
import Derived.Test.YtgkokjkoifdbnaaGreatSoC
import Derived.Test.YtgkokjkoifdbnaaGreatProg
import Derived.KernelRfl
/- Each function of the table is the loaded program's own. -/
namespace Go.Proofs.YtgkokjkoifdbnaaGreat
open Go.Am Go.Am.Fs
set_option maxRecDepth 1000000
theorem t3 : compF Tryz.prog T true 3 = some F3 := by kernel_rfl
theorem t8 : compF Tryz.prog T true 8 = some F8 := by kernel_rfl
theorem t9 : compF Tryz.prog T true 9 = some F9 := by kernel_rfl
theorem t10 : compF Tryz.prog T true 10 = some F10 := by kernel_rfl
theorem t11 : compF Tryz.prog T true 11 = some F11 := by kernel_rfl
theorem t12 : compF Tryz.prog T true 12 = some F12 := by kernel_rfl
theorem t19 : compF Tryz.prog T true 19 = some F19 := by kernel_rfl
theorem t25 : compF Tryz.prog T true 25 = some F25 := by kernel_rfl
theorem t39 : compF Tryz.prog T true 39 = some F39 := by kernel_rfl
theorem t40 : compF Tryz.prog T false 40 = some F40 := by kernel_rfl
theorem t41 : compF Tryz.prog T true 41 = some F41 := by kernel_rfl
theorem t42 : compF Tryz.prog T true 42 = some F42 := by kernel_rfl
theorem t43 : compF Tryz.prog T true 43 = some F43 := by kernel_rfl
theorem t48 : compF Tryz.prog T true 48 = some F48 := by kernel_rfl
theorem t52 : compF Tryz.prog T true 52 = some F52 := by kernel_rfl
theorem t65 : compF Tryz.prog T true 65 = some F65 := by kernel_rfl
theorem t66 : compF Tryz.prog T true 66 = some F66 := by kernel_rfl
theorem t74 : compF Tryz.prog T false 74 = some F74 := by kernel_rfl
theorem t76 : compF Tryz.prog T true 76 = some F76 := by kernel_rfl
theorem t77 : compF Tryz.prog T true 77 = some F77 := by kernel_rfl
theorem t78 : compF Tryz.prog T true 78 = some F78 := by kernel_rfl
theorem t79 : compF Tryz.prog T true 79 = some F79 := by kernel_rfl
theorem t80 : compF Tryz.prog T false 80 = some F80 := by kernel_rfl
theorem t85 : compF Tryz.prog T true 85 = some F85 := by kernel_rfl
theorem t86 : compF Tryz.prog T true 86 = some F86 := by kernel_rfl
theorem t87 : compF Tryz.prog T false 87 = some F87 := by kernel_rfl
theorem t101 : compF Tryz.prog T false 101 = some F101 := by kernel_rfl
theorem t107 : compF Tryz.prog T true 107 = some F107 := by kernel_rfl
theorem t108 : compF Tryz.prog T true 108 = some F108 := by kernel_rfl
theorem t117 : compF Tryz.prog T false 117 = some F117 := by kernel_rfl
theorem t121 : compF Tryz.prog T false 121 = some F121 := by kernel_rfl
theorem t122 : compF Tryz.prog T false 122 = some F122 := by kernel_rfl
theorem t124 : compF Tryz.prog T true 124 = some F124 := by kernel_rfl
theorem t125 : compF Tryz.prog T true 125 = some F125 := by kernel_rfl
theorem t126 : compF Tryz.prog T true 126 = some F126 := by kernel_rfl
theorem t127 : compF Tryz.prog T true 127 = some F127 := by kernel_rfl
theorem t130 : compF Tryz.prog T true 130 = some F130 := by kernel_rfl
theorem t131 : compF Tryz.prog T true 131 = some F131 := by kernel_rfl
theorem t134 : compF Tryz.prog T true 134 = some F134 := by kernel_rfl
theorem t135 : compF Tryz.prog T true 135 = some F135 := by kernel_rfl
theorem t140 : compF Tryz.prog T true 140 = some F140 := by kernel_rfl
theorem t141 : compF Tryz.prog T true 141 = some F141 := by kernel_rfl
theorem t142 : compF Tryz.prog T true 142 = some F142 := by kernel_rfl
theorem t143 : compF Tryz.prog T true 143 = some F143 := by kernel_rfl
theorem t144 : compF Tryz.prog T false 144 = some F144 := by kernel_rfl
theorem t163 : compF Tryz.prog T false 163 = some F163 := by kernel_rfl
theorem t165 : compF Tryz.prog T true 165 = some F165 := by kernel_rfl
theorem t170 : compF Tryz.prog T false 170 = some F170 := by kernel_rfl
theorem t173 : compF Tryz.prog T false 173 = some F173 := by kernel_rfl
theorem t174 : compF Tryz.prog T false 174 = some F174 := by kernel_rfl
theorem t176 : compF Tryz.prog T true 176 = some F176 := by kernel_rfl
theorem t178 : compF Tryz.prog T true 178 = some F178 := by kernel_rfl
theorem t179 : compF Tryz.prog T true 179 = some F179 := by kernel_rfl
theorem t180 : compF Tryz.prog T true 180 = some F180 := by kernel_rfl
theorem t181 : compF Tryz.prog T true 181 = some F181 := by kernel_rfl
theorem t182 : compF Tryz.prog T true 182 = some F182 := by kernel_rfl
theorem t184 : compF Tryz.prog T true 184 = some F184 := by kernel_rfl
theorem t185 : compF Tryz.prog T true 185 = some F185 := by kernel_rfl
theorem t189 : compF Tryz.prog T true 189 = some F189 := by kernel_rfl
theorem t191 : compF Tryz.prog T true 191 = some F191 := by kernel_rfl
theorem t192 : compF Tryz.prog T true 192 = some F192 := by kernel_rfl
theorem t194 : compF Tryz.prog T true 194 = some F194 := by kernel_rfl
theorem t195 : compF Tryz.prog T true 195 = some F195 := by kernel_rfl
theorem t196 : compF Tryz.prog T false 196 = some F196 := by kernel_rfl
theorem t214 : compF Tryz.prog T false 214 = some F214 := by kernel_rfl
theorem t224 : compF Tryz.prog T false 224 = some F224 := by kernel_rfl
theorem t225 : compF Tryz.prog T false 225 = some F225 := by kernel_rfl
theorem t226 : compF Tryz.prog T true 226 = some F226 := by kernel_rfl
theorem t227 : compF Tryz.prog T true 227 = some F227 := by kernel_rfl
theorem t228 : compF Tryz.prog T true 228 = some F228 := by kernel_rfl
theorem t230 : compF Tryz.prog T true 230 = some F230 := by kernel_rfl
theorem t231 : compF Tryz.prog T true 231 = some F231 := by kernel_rfl
theorem t234 : compF Tryz.prog T true 234 = some F234 := by kernel_rfl
theorem t235 : compF Tryz.prog T true 235 = some F235 := by kernel_rfl
theorem t236 : compF Tryz.prog T true 236 = some F236 := by kernel_rfl
theorem t237 : compF Tryz.prog T true 237 = some F237 := by kernel_rfl
theorem t238 : compF Tryz.prog T true 238 = some F238 := by kernel_rfl
theorem t243 : compF Tryz.prog T true 243 = some F243 := by kernel_rfl
theorem t244 : compF Tryz.prog T false 244 = some F244 := by kernel_rfl
theorem t269 : compF Tryz.prog T true 269 = some F269 := by kernel_rfl
theorem t270 : compF Tryz.prog T true 270 = some F270 := by kernel_rfl
theorem t271 : compF Tryz.prog T true 271 = some F271 := by kernel_rfl
theorem t272 : compF Tryz.prog T false 272 = some F272 := by kernel_rfl
theorem t273 : compF Tryz.prog T true 273 = some F273 := by kernel_rfl
theorem t274 : compF Tryz.prog T true 274 = some F274 := by kernel_rfl
theorem t275 : compF Tryz.prog T true 275 = some F275 := by kernel_rfl
theorem t276 : compF Tryz.prog T false 276 = some F276 := by kernel_rfl
theorem t287 : compF Tryz.prog T false 287 = some F287 := by kernel_rfl
theorem t303 : compF Tryz.prog T false 303 = some F303 := by kernel_rfl
theorem t304 : compF Tryz.prog T true 304 = some F304 := by kernel_rfl
theorem t305 : compF Tryz.prog T true 305 = some F305 := by kernel_rfl
theorem t314 : compF Tryz.prog T false 314 = some F314 := by kernel_rfl
theorem t321 : compF Tryz.prog T false 321 = some F321 := by kernel_rfl
theorem t324 : compF Tryz.prog T false 324 = some F324 := by kernel_rfl
theorem t326 : compF Tryz.prog T false 326 = some F326 := by kernel_rfl
theorem t330 : compF Tryz.prog T true 330 = some F330 := by kernel_rfl
theorem xn331 : Extern.findNext Tryz.f331 = none := by kernel_rfl
theorem xe331 : Extern.find Tryz.f331 = some Extern.BytealgCompare.compare := by kernel_rfl
theorem t355 : compF Tryz.prog T false 355 = some F355 := by kernel_rfl
theorem t370 : compF Tryz.prog T false 370 = some F370 := by kernel_rfl
theorem tabAll : tab.All (EntOK Tryz.prog T) := ⟨⟨⟨⟨⟨⟨⟨trivial, ⟨compF_ok t3, fun _ _ => rfl⟩, trivial⟩, ⟨compF_ok t8, fun _ _ => rfl⟩, ⟨trivial, ⟨compF_ok t9, fun _ _ => rfl⟩, trivial⟩⟩, ⟨compF_ok t10, fun _ _ => rfl⟩, ⟨⟨trivial, ⟨compF_ok t11, fun _ _ => rfl⟩, trivial⟩, ⟨compF_ok t12, fun _ _ => rfl⟩, trivial⟩⟩, ⟨compF_ok t19, fun _ _ => rfl⟩, ⟨⟨⟨trivial, ⟨compF_ok t25, fun _ _ => rfl⟩, trivial⟩, ⟨compF_ok t39, fun _ _ => rfl⟩, trivial⟩, ⟨compF_ok t40, fun _ _ => rfl⟩, ⟨⟨trivial, ⟨compF_ok t41, fun _ _ => rfl⟩, trivial⟩, ⟨compF_ok t42, fun _ _ => rfl⟩, trivial⟩⟩⟩, ⟨compF_ok t43, fun _ _ => rfl⟩, ⟨⟨⟨⟨trivial, ⟨compF_ok t48, fun _ _ => rfl⟩, trivial⟩, ⟨compF_ok t52, fun _ _ => rfl⟩, trivial⟩, ⟨compF_ok t65, fun _ _ => rfl⟩, ⟨⟨trivial, ⟨compF_ok t66, fun _ _ => rfl⟩, trivial⟩, ⟨compF_ok t74, fun _ _ => rfl⟩, trivial⟩⟩, ⟨compF_ok t76, fun _ _ => rfl⟩, ⟨⟨⟨trivial, ⟨compF_ok t77, fun _ _ => rfl⟩, trivial⟩, ⟨compF_ok t78, fun _ _ => rfl⟩, trivial⟩, ⟨compF_ok t79, fun _ _ => rfl⟩, ⟨⟨trivial, ⟨compF_ok t80, fun _ _ => rfl⟩, trivial⟩, ⟨compF_ok t85, fun _ _ => rfl⟩, trivial⟩⟩⟩⟩, ⟨compF_ok t86, fun _ _ => rfl⟩, ⟨⟨⟨⟨⟨trivial, ⟨compF_ok t87, fun _ _ => rfl⟩, trivial⟩, ⟨compF_ok t101, fun _ _ => rfl⟩, ⟨trivial, ⟨compF_ok t107, fun _ _ => rfl⟩, trivial⟩⟩, ⟨compF_ok t108, fun _ _ => rfl⟩, ⟨⟨trivial, ⟨compF_ok t117, fun _ _ => rfl⟩, trivial⟩, ⟨compF_ok t121, fun _ _ => rfl⟩, trivial⟩⟩, ⟨compF_ok t122, fun _ _ => rfl⟩, ⟨⟨⟨trivial, ⟨compF_ok t124, fun _ _ => rfl⟩, trivial⟩, ⟨compF_ok t125, fun _ _ => rfl⟩, trivial⟩, ⟨compF_ok t126, fun _ _ => rfl⟩, ⟨⟨trivial, ⟨compF_ok t127, fun _ _ => rfl⟩, trivial⟩, ⟨compF_ok t130, fun _ _ => rfl⟩, trivial⟩⟩⟩, ⟨compF_ok t131, fun _ _ => rfl⟩, ⟨⟨⟨⟨trivial, ⟨compF_ok t134, fun _ _ => rfl⟩, trivial⟩, ⟨compF_ok t135, fun _ _ => rfl⟩, trivial⟩, ⟨compF_ok t140, fun _ _ => rfl⟩, ⟨⟨trivial, ⟨compF_ok t141, fun _ _ => rfl⟩, trivial⟩, ⟨compF_ok t142, fun _ _ => rfl⟩, trivial⟩⟩, ⟨compF_ok t143, fun _ _ => rfl⟩, ⟨⟨⟨trivial, ⟨compF_ok t144, fun _ _ => rfl⟩, trivial⟩, ⟨compF_ok t163, fun _ _ => rfl⟩, trivial⟩, ⟨compF_ok t165, fun _ _ => rfl⟩, ⟨⟨trivial, ⟨compF_ok t170, fun _ _ => rfl⟩, trivial⟩, ⟨compF_ok t173, fun _ _ => rfl⟩, trivial⟩⟩⟩⟩⟩, ⟨compF_ok t174, fun _ _ => rfl⟩, ⟨⟨⟨⟨⟨⟨trivial, ⟨compF_ok t176, fun _ _ => rfl⟩, trivial⟩, ⟨compF_ok t178, fun _ _ => rfl⟩, ⟨trivial, ⟨compF_ok t179, fun _ _ => rfl⟩, trivial⟩⟩, ⟨compF_ok t180, fun _ _ => rfl⟩, ⟨⟨trivial, ⟨compF_ok t181, fun _ _ => rfl⟩, trivial⟩, ⟨compF_ok t182, fun _ _ => rfl⟩, trivial⟩⟩, ⟨compF_ok t184, fun _ _ => rfl⟩, ⟨⟨⟨trivial, ⟨compF_ok t185, fun _ _ => rfl⟩, trivial⟩, ⟨compF_ok t189, fun _ _ => rfl⟩, trivial⟩, ⟨compF_ok t191, fun _ _ => rfl⟩, ⟨⟨trivial, ⟨compF_ok t192, fun _ _ => rfl⟩, trivial⟩, ⟨compF_ok t194, fun _ _ => rfl⟩, trivial⟩⟩⟩, ⟨compF_ok t195, fun _ _ => rfl⟩, ⟨⟨⟨⟨trivial, ⟨compF_ok t196, fun _ _ => rfl⟩, trivial⟩, ⟨compF_ok t214, fun _ _ => rfl⟩, trivial⟩, ⟨compF_ok t224, fun _ _ => rfl⟩, ⟨⟨trivial, ⟨compF_ok t225, fun _ _ => rfl⟩, trivial⟩, ⟨compF_ok t226, fun _ _ => rfl⟩, trivial⟩⟩, ⟨compF_ok t227, fun _ _ => rfl⟩, ⟨⟨⟨trivial, ⟨compF_ok t228, fun _ _ => rfl⟩, trivial⟩, ⟨compF_ok t230, fun _ _ => rfl⟩, trivial⟩, ⟨compF_ok t231, fun _ _ => rfl⟩, ⟨⟨trivial, ⟨compF_ok t234, fun _ _ => rfl⟩, trivial⟩, ⟨compF_ok t235, fun _ _ => rfl⟩, trivial⟩⟩⟩⟩, ⟨compF_ok t236, fun _ _ => rfl⟩, ⟨⟨⟨⟨⟨trivial, ⟨compF_ok t237, fun _ _ => rfl⟩, trivial⟩, ⟨compF_ok t238, fun _ _ => rfl⟩, ⟨trivial, ⟨compF_ok t243, fun _ _ => rfl⟩, trivial⟩⟩, ⟨compF_ok t244, fun _ _ => rfl⟩, ⟨⟨trivial, ⟨compF_ok t269, fun _ _ => rfl⟩, trivial⟩, ⟨compF_ok t270, fun _ _ => rfl⟩, trivial⟩⟩, ⟨compF_ok t271, fun _ _ => rfl⟩, ⟨⟨⟨trivial, ⟨compF_ok t272, fun _ _ => rfl⟩, trivial⟩, ⟨compF_ok t273, fun _ _ => rfl⟩, trivial⟩, ⟨compF_ok t274, fun _ _ => rfl⟩, ⟨⟨trivial, ⟨compF_ok t275, fun _ _ => rfl⟩, trivial⟩, ⟨compF_ok t276, fun _ _ => rfl⟩, trivial⟩⟩⟩, ⟨compF_ok t287, fun _ _ => rfl⟩, ⟨⟨⟨⟨trivial, ⟨compF_ok t303, fun _ _ => rfl⟩, trivial⟩, ⟨compF_ok t304, fun _ _ => rfl⟩, trivial⟩, ⟨compF_ok t305, fun _ _ => rfl⟩, ⟨⟨trivial, ⟨compF_ok t314, fun _ _ => rfl⟩, trivial⟩, ⟨compF_ok t321, fun _ _ => rfl⟩, trivial⟩⟩, ⟨compF_ok t324, fun _ _ => rfl⟩, ⟨⟨⟨trivial, ⟨compF_ok t326, fun _ _ => rfl⟩, trivial⟩, ⟨compF_ok t330, fun _ _ => rfl⟩, trivial⟩, cmp_prim Tryz.func331 rfl rfl xn331 xe331, ⟨⟨trivial, ⟨compF_ok t355, fun _ _ => rfl⟩, trivial⟩, ⟨compF_ok t370, fun _ _ => rfl⟩, trivial⟩⟩⟩⟩⟩⟩
theorem tabOK : TabOK Tryz.prog (compC Tryz.prog T) T := tabOK_of tabAll
theorem mixed : Tryz.prog.follows .mixedOrders = true := by kernel_rfl
end Go.Proofs.YtgkokjkoifdbnaaGreat
