/- SchemaOrders: closed facts of its row (what it reaches, what it names), each by itself. No condition. -/
import Derived.Test.YtaikipdjknhjdaaGreatDoorCards
import Derived.Test.YtaikipdjknhjdaaGreatDoorChecked
import Derived.JoinedOf
import Derived.KernelRfl
namespace Go.Proofs.YtaikipdjknhjdaaGreatDoor.schemaOrders
open Go.ChangeShapes Go.WideShapes

/-- The functions that the law reaches, by their numbers. -/
def reached : List FuncId := [3, 4, 5, 10, 6, 11, 26, 28, 29, 50, 49, 123, 133, 217, 298, 343, 208, 51, 52, 124, 64, 129, 128, 125, 126, 209, 210, 211, 27, 53, 54, 127, 18, 37, 55, 56, 57, 58, 59, 60, 61, 62, 25, 30, 31, 32, 33, 16, 36, 35, 63, 12, 13, 15, 14, 34, 7, 17, 20, 38, 19, 8, 21, 39, 65, 130, 212, 66, 131, 213, 295, 296, 342, 214, 297, 215, 216, 299, 300, 301, 344, 40, 67, 132, 69, 68, 70, 71, 134, 72, 135, 136, 140, 220, 221, 305, 360, 361, 137, 218, 302, 345, 347, 346, 219, 303, 356, 226, 311, 145, 228, 314, 229, 315, 146, 147, 357, 386, 358, 359, 388, 397, 408, 413, 414, 389, 398, 409, 399, 400, 225, 310, 370, 390, 391, 249, 402, 403, 392, 393, 404, 405, 411, 412, 410, 401, 387, 372, 394, 371, 396, 223, 304, 227, 312, 313, 373, 395, 406, 407, 308, 143, 224, 309, 348, 350, 383, 349, 351, 352, 368, 353, 363, 354, 384, 366, 367, 319, 355, 385, 237, 316, 138, 73, 139, 74, 41, 75, 141, 142, 222, 306, 362, 364, 365, 317, 307, 369, 144, 76, 77, 78, 79, 42, 80, 148, 149, 151, 150, 230, 152, 153, 231, 202, 232, 155, 154, 233, 81, 82, 156, 235, 234, 157, 165, 200, 283, 158, 159, 160, 161, 162, 163, 83, 84, 85, 86, 164, 166, 168, 167, 169, 87, 88, 89, 170, 90, 91, 92, 171, 116, 173, 172, 236, 93, 94, 174, 176, 175, 238, 318, 320, 374, 375, 322, 376, 321, 95, 44, 102, 177, 178, 179, 180, 204, 201, 184, 185, 239, 103, 181, 183, 182, 104, 105, 187, 248, 186, 240, 241, 323, 242, 324, 325, 243, 326, 327, 377, 244, 245, 246, 247, 106, 107, 188, 108, 189, 250, 251, 328, 252, 253, 329, 330, 378, 254, 255, 256, 257, 109, 110, 190, 258, 259, 331, 260, 261, 332, 333, 379, 262, 263, 264, 265, 111, 96, 97, 22, 43, 98, 99, 100, 101, 23, 45, 112, 113, 24, 46, 47, 115, 114, 191, 192, 266, 334, 335, 284, 380, 267, 268, 269, 270, 274, 337, 381, 336, 193, 194, 271, 272, 273, 195, 275, 276, 277, 278, 196, 279, 280, 281, 338, 203, 205, 285, 286, 207, 197, 48, 117, 118, 119, 121, 122, 120, 206, 287, 288, 339, 289, 290, 340, 341, 382, 291, 292, 293, 294, 198, 282, 199, 9]

theorem reached_is : Tryz.prog.closure 3 = reached := eq_of_beq (show (Tryz.prog.closure 3 == reached) = true by kernel_rfl)

theorem f_named : (Rows.schemaOrdersRow.named == Tryz.prog.varsNamed 3) = true := by
  unfold Program.varsNamed
  rw [reached_is]
  kernel_rfl

theorem f_unfollowed : (Rows.schemaOrdersRow.unfollowed == Tryz.prog.unfollowed 3) = true := by
  unfold Program.unfollowed
  rw [reached_is]
  kernel_rfl

end Go.Proofs.YtaikipdjknhjdaaGreatDoor.schemaOrders
